/-
  The operations that only read: what is asked of each is enough, in every heap with more blocks.
  Functions and their contracts over a heap; the operations that make or write memory; regions, drawn or not; branches, loops; from a body to a contract.
-/
import Derived.Test.YtkdmpdbbcgdfkaaGreatDoorJ1
namespace Go.Proofs.YtkdmpdbbcgdfkaaGreatDoor.Vm
open Go
variable {ds : List Deferred}
set_option linter.unusedSimpArgs false
theorem bnd_elim {fr : Fr} {x : Option Operand} {d : Nat} {k : Int → Prop} (h : bnd fr x d k) {n : Nat} {a : Act} (hF : Hold ds n fr a) :
    ∃ i, k i ∧ (x.map a.eval = none ∧ i = d ∨ ∃ kd, x.map a.eval = some (.int kd i)) := by
  unfold bnd at h
  split at h
  · exact ⟨_, h, .inl ⟨rfl, rfl⟩⟩
  · obtain ⟨v, hv, h⟩ := evk_elim h
    split at h
    · exact ⟨_, h, .inr ⟨_, congrArg some (hF.ev hv)⟩⟩
    · exact h.elim
theorem bnd_elim0 {fr : Fr} {x : Option Operand} {k : Int → Prop} (h : bnd fr x 0 k) {n : Nat} {a : Act} (hF : Hold ds n fr a) :
    ∃ i, k i ∧ (x.map a.eval = none ∧ i = 0 ∨ ∃ kd, x.map a.eval = some (.int kd i)) := bnd_elim h hF
theorem mapM_ev {fr : Fr} {n : Nat} {a : Act} (hF : Hold ds n fr a) : ∀ (l : List (Nat × Operand)) (vs : List (Nat × Value)),
    evl fr l = some vs → l.map (fun p => (p.1, a.eval p.2)) = vs
  | [], vs, h => by simp [evl] at h; simp [h]
  | (i, x) :: l, vs, h => by
    simp only [evl] at h
    split at h
    · rename_i v us hv hl
      cases h
      simp [hF.ev hv, mapM_ev hF l us hl]
    · cases h
theorem mapM_evs {fr : Fr} {n : Nat} {a : Act} (hF : Hold ds n fr a) : ∀ (l : List Operand) (vs : List Value), evs fr l = some vs → l.map a.eval = vs
  | [], vs, h => by simp [evs] at h; simp [h]
  | x :: l, vs, h => by
    simp only [evs] at h
    split at h
    · rename_i v us hv hl
      cases h
      simp [hF.ev hv, mapM_evs hF l us hl]
    · cases h
theorem opq_sound {P : Program} {o : Oper} {fr : Fr} {h : Heap} {k : Value → Prop} {n : Nat} {a : Act} (hF : Hold ds n fr a) (H : opq P o fr h k) :
    ∃ v, k v ∧ ∀ w, ExtH h w.heap → (execOp a.eval o).run P w = .ok (.value v) w := by
  unfold opq at H
  split at H
  · rename_i x ho
    obtain ⟨v, hv, H⟩ := evk_elim H
    exact ⟨v, H, fun w _ => by simp [execOp, ho, hF.ev hv]⟩
  · rename_i x ho
    obtain ⟨v, hv, H⟩ := evk_elim H
    exact ⟨v, H, fun w _ => by simp [execOp, ho, hF.ev hv]⟩
  · rename_i c x y ho
    obtain ⟨v, hv, H⟩ := evk_elim H
    split at H
    · obtain ⟨u, hu, H⟩ := evk_elim H
      exact ⟨u, H, fun w _ => by simp [execOp, ho, hF.ev hv, hF.ev hu, asBool]⟩
    · obtain ⟨u, hu, H⟩ := evk_elim H
      exact ⟨u, H, fun w _ => by simp [execOp, ho, hF.ev hv, hF.ev hu, asBool]⟩
    · exact H.elim
  · rename_i x ho
    obtain ⟨v, hv, H⟩ := evk_elim H
    split at H
    · exact ⟨_, H, fun w _ => by simp [execOp, ho, hF.ev hv]⟩
    · exact ⟨_, H, fun w _ => by simp [execOp, ho, hF.ev hv]⟩
    · exact H.elim
  · rename_i op t x y yt ho
    obtain ⟨u, hu, H⟩ := evk_elim H
    obtain ⟨v, hv, H⟩ := evk_elim H
    obtain ⟨r, hr, H⟩ := binq_elim H
    exact ⟨r, H, fun w _ => by simp only [execOp, ho, hF.ev hu, hF.ev hv, Sem.run_bind, hr]; rfl⟩
  · rename_i op t x ho
    obtain ⟨v, hv, H⟩ := evk_elim H
    split at H
    · exact ⟨_, H, fun w _ => by simp [execOp, ho, hF.ev hv, Op.unary, Op.intArith]⟩
    · exact ⟨_, H, fun w _ => by simp [execOp, ho, hF.ev hv, Op.unary, intBits_xor]⟩
    · exact ⟨_, H, fun w _ => by simp [execOp, ho, hF.ev hv, Op.unary]⟩
    · exact H.elim
  · rename_i s t x ho
    obtain ⟨v, hv, H⟩ := evk_elim H
    split at H
    · rename_i hs ht
      exact ⟨_, H, fun w _ => by simp [execOp, ho, hF.ev hv, convert, run_underlying hs, run_underlying ht, Conv.intToInt]⟩
    · rename_i hs ht
      exact ⟨_, H, fun w _ => by simp [execOp, ho, hF.ev hv, convert, run_underlying hs, run_underlying ht]⟩
    · exact H.elim
  · rename_i s x i ho
    obtain ⟨v, hv, H⟩ := evk_elim H
    split at H
    · rename_i fs ad hs
      split at H
      · rename_i f hf
        split at H
        · rename_i inf hi
          split at H
          · exact H.elim
          · rename_i hsz
            have H := addk_elim H
            exact ⟨_, H, fun w _ => by simp [execOp, ho, hF.ev hv, Instr.fieldAt, run_underlying hs, hf, Instr.sureAddr, fieldPlace, sizeOf, typeInfo, hi, hsz]⟩
        · exact H.elim
      · exact H.elim
    · exact H.elim
  · rename_i t x i ho
    obtain ⟨v, hv, H⟩ := evk_elim H
    split at H
    · rename_i fs cs hs
      split at H
      · rename_i f hf
        obtain ⟨u, hu, H⟩ := partk_elim H
        exact ⟨u, H, fun w _ => by simp [execOp, ho, hF.ev hv, Instr.field, run_underlying hs, hf, asAgg, hu]⟩
      · exact H.elim
    · exact H.elim
  · rename_i t x i ho
    obtain ⟨v, hv, H⟩ := evk_elim H
    obtain ⟨iv, hiv, H⟩ := evk_elim H
    split at H
    · split at H
      · rename_i ht _
        split at H
        · rename_i hi
          obtain ⟨⟨h0, h1⟩, H⟩ := H
          have H := addi_elim H
          exact ⟨_, H, fun w _ => by simp [execOp, ho, hF.ev hv, hF.ev hiv, Instr.indexAt, run_underlying ht, asIntOf, Instr.sureAddr, h0, h1, sizeOf, typeInfo, hi]⟩
        · exact H.elim
      · rename_i ht _
        split at H
        · rename_i hi
          obtain ⟨⟨h0, h1⟩, H⟩ := H
          have H := addi_elim H
          exact ⟨_, H, fun w _ => by simp [execOp, ho, hF.ev hv, hF.ev hiv, Instr.indexAt, run_underlying ht, asIntOf, h0, h1, sizeOf, typeInfo, hi]⟩
        · exact H.elim
      · exact H.elim
    · exact H.elim
  · rename_i t x i ho
    obtain ⟨v, hv, H⟩ := evk_elim H
    obtain ⟨iv, hiv, H⟩ := evk_elim H
    split at H
    · split at H
      · rename_i ht _
        split at H
        · rename_i hi
          obtain ⟨⟨h0, h1⟩, H⟩ := H
          obtain ⟨u, hu, H⟩ := partk_elim H
          exact ⟨u, H, fun w _ => by simp [execOp, ho, hF.ev hv, hF.ev hiv, Instr.index, run_underlying ht, asIntOf, h0, h1, sizeOf, typeInfo, hi, hu]⟩
        · exact H.elim
      · rename_i ht _
        obtain ⟨b, ⟨h0, h1⟩, H⟩ := H
        exact ⟨_, H, fun w _ => by simp [execOp, ho, hF.ev hv, hF.ev hiv, Instr.index, run_underlying ht, asIntOf, h0, h1]⟩
      · exact H.elim
    · exact H.elim
  · rename_i x i ho
    obtain ⟨v, hv, H⟩ := evk_elim H
    split at H
    · split at H
      · rename_i u hu
        exact ⟨u, H, fun w _ => by simp [execOp, ho, hF.ev hv, Instr.extract, hu]⟩
      · exact H.elim
    · exact H.elim
  · rename_i t x ho
    obtain ⟨v, hv, H⟩ := evk_elim H
    split at H
    · obtain ⟨u, H, hu⟩ := loadk_elim H
      exact ⟨u, H, fun w hw => by simp [execOp, ho, hF.ev hv, Instr.loadAt, Instr.sureAddr, hu w hw]⟩
    · exact H.elim
  · rename_i t x lo hi ho
    obtain ⟨v, hv, H⟩ := evk_elim H
    split at H
    · rename_i s ht
      obtain ⟨l, H, hl⟩ := bnd_elim0 H hF
      obtain ⟨j, H, hj⟩ := bnd_elim H hF
      obtain ⟨⟨h0, h1, h2⟩, H⟩ := H
      exact ⟨_, H, fun w _ => by
        have := run_sliceBounds (P := P) false s.size s.size _ _ l j w hl hj h0 h1 h2
        simp [execOp, ho, hF.ev hv, Instr.sliceAt, Instr.slice, run_underlying ht, this]⟩
    · rename_i e ad len cap ht
      split at H
      · rename_i inf hi'
        obtain ⟨l, H, hl⟩ := bnd_elim0 H hF
        obtain ⟨j, H, hj⟩ := bnd_elim H hF
        obtain ⟨⟨h0, h1, h2⟩, A, hA, H⟩ := H
        exact ⟨_, H, fun w _ => by
          have := run_sliceBounds (P := P) true len cap _ _ l j w hl hj h0 h1 h2
          simp [execOp, ho, hF.ev hv, Instr.sliceAt, Instr.slice, run_underlying ht, this, sizeOf, typeInfo, hi', hA]⟩
      · exact H.elim
    · rename_i m e ad ht
      split at H
      · rename_i inf hi'
        obtain ⟨l, H, hl⟩ := bnd_elim0 H hF
        obtain ⟨j, H, hj⟩ := bnd_elim H hF
        obtain ⟨⟨h0, h1, h2⟩, A, hA, H⟩ := H
        exact ⟨_, H, fun w _ => by
          have := run_sliceBounds (P := P) false m m _ _ l j w hl hj h0 h1 h2
          simp [execOp, ho, hF.ev hv, Instr.sliceAt, Instr.sureAddr, run_underlying ht, this, sizeOf, typeInfo, hi', hA]⟩
      · exact H.elim
    · exact H.elim
  · rename_i T x ho
    obtain ⟨v, hv, H⟩ := evk_elim H
    split at H
    · rename_i ht
      obtain ⟨h0, H⟩ := H
      exact ⟨_, H, fun w _ => by simp [execOp, ho, hF.ev hv, Instr.arrayAt, run_underlying ht, Nat.not_lt.2 h0]⟩
    · exact H.elim
  · rename_i c ho
    unfold lenq at H
    split at H
    · rename_i hc
      split at H
      · rename_i x T hx hT
        obtain ⟨v, hv, H⟩ := evk_elim H
        split at H
        · rename_i ht
          exact ⟨_, H, fun w _ => by simp [execOp, ho, hc, hx, hT, hF.ev hv, resolve, invoke, builtin, Builtin.len_, run_underlying ht, goInt]⟩
        · rename_i ht
          exact ⟨_, H, fun w _ => by simp [execOp, ho, hc, hx, hT, hF.ev hv, resolve, invoke, builtin, Builtin.len_, run_underlying ht, goInt]⟩
        · exact H.elim
      · exact H.elim
    · exact H.elim
  · rename_i t parts ho
    obtain ⟨vs, hvs, c, hc, H⟩ := H
    have e : parts.map (fun p => (p.1, a.eval p.2)) = vs.toArray := by
      apply Array.ext'
      simpa using mapM_ev hF parts.toList vs hvs
    refine ⟨_, H, fun w _ => ?_⟩
    simp only [execOp, ho, Sem.run_bind]
    rw [show (parts.map fun x => match x with | (i, x) => (i, a.eval x)) = vs.toArray from e, hc]
    rfl
  · rename_i t x ix ok ho
    obtain ⟨v, hv, H⟩ := evk_elim H
    obtain ⟨i, hi, H⟩ := evk_elim H
    obtain ⟨u, hu, H⟩ := H
    exact ⟨u, H, fun w hw => by simp [execOp, ho, hF.ev hv, hF.ev hi, hu w hw]⟩
  · rename_i t x ho
    obtain ⟨v, hv, u, hu, H⟩ := evk_elim H
    exact ⟨u, H, fun w hw => by simp [execOp, ho, hF.ev hv, hu w]⟩
  · rename_i x t as ok ho
    obtain ⟨v, hv, u, hu, H⟩ := evk_elim H
    exact ⟨u, H, fun w hw => by simp [execOp, ho, hF.ev hv, hu w]⟩
  · rename_i f first cap ho
    obtain ⟨vs, hvs, us, hus, H⟩ := H
    have e1 : first.map a.eval = vs.toArray := by apply Array.ext'; simpa using mapM_evs hF first.toList vs hvs
    have e2 : cap.map a.eval = us.toArray := by apply Array.ext'; simpa using mapM_evs hF cap.toList us hus
    exact ⟨_, H, fun w hw => by simp [execOp, ho, e1, e2, Instr.makeFunc]⟩
  · exact H.elim
end Go.Proofs.YtkdmpdbbcgdfkaaGreatDoor.Vm
namespace Go.Proofs.YtkdmpdbbcgdfkaaGreatDoor.Vm
open Go
variable {ds : List Deferred}
set_option linter.unusedSimpArgs false
structure SameEnv (w w' : World) : Prop where
  os : w'.os = w.os
  tape : w'.tape = w.tape
  output : w'.output = w.output
theorem SameEnv.refl (w : World) : SameEnv w w := ⟨rfl, rfl, rfl⟩
theorem SameEnv.trans {a b c : World} (h : SameEnv a b) (k : SameEnv b c) : SameEnv a c := ⟨k.os.trans h.os, k.tape.trans h.tape, k.output.trans h.output⟩
theorem Ext.of {w w' : World} (h : SameEnv w w') (k : ExtH w.heap w'.heap) : Ext w w' := ⟨h.os, h.tape, h.output, k.size, k.block⟩
theorem Ext.env {w w' : World} (h : Ext w w') : SameEnv w w' := ⟨h.os, h.tape, h.output⟩
theorem Ext.heap {w w' : World} (h : Ext w w') : ExtH w.heap w'.heap := ⟨h.size, h.block⟩
/-- a step of the model that yields a value -/
def RunsV (P : Program) (s : Sem Value) (h : Heap) (R : Value → Heap → Prop) : Prop :=
  ∀ w, w.heap = h → ∃ v w', s.run P w = .ok v w' ∧ SameEnv w w' ∧ R v w'.heap
/-- a step of the model that yields nothing -/
def RunsU (P : Program) (s : Sem Unit) (h : Heap) (R : Heap → Prop) : Prop :=
  ∀ w, w.heap = h → ∃ w', s.run P w = .ok () w' ∧ SameEnv w w' ∧ R w'.heap
def plain (P : Program) (f : FuncId) : Bool :=
  match P.funcs[f]? with
  | some fn => fn.body.isSome && fn.name != "runtime.NumGoroutine"
  | none => false
/-- THE CONTRACT OF A FUNCTION: called so over heap h it returns, with R of its value and the heap behind it. -/
def Fx (P : Program) (f : FuncId) (args : Array Value) (h : Heap) (R : Value → Heap → Prop) : Prop :=
  (plain P f = true ∧ ∀ w, w.heap = h → Calls P f args w (fun e w' => ∃ v, e = .returned v ∧ SameEnv w w' ∧ R v w'.heap)) ∨
  (∀ w, w.heap = h → ∃ v w', (callFunc f args).run P w = .ok (.value v) w' ∧ SameEnv w w' ∧ R v w'.heap)
theorem Fx.mono {P : Program} {f : FuncId} {args : Array Value} {h : Heap} {R R' : Value → Heap → Prop} (H : Fx P f args h R) (hr : ∀ v h', R v h' → R' v h') : Fx P f args h R' := by
  rcases H with ⟨hp, H⟩ | H
  · refine .inl ⟨hp, fun w hw => (H w hw).mono ?_⟩
    rintro e w' ⟨v, he, hs, hR⟩
    exact ⟨v, he, hs, hr _ _ hR⟩
  · refine .inr fun w hw => ?_
    obtain ⟨v, w', h1, h2, h3⟩ := H w hw
    exact ⟨v, w', h1, h2, hr _ _ h3⟩
theorem RunsV.mono {P : Program} {s : Sem Value} {h : Heap} {R R' : Value → Heap → Prop} (H : RunsV P s h R) (hr : ∀ v h', R v h' → R' v h') : RunsV P s h R' := fun w hw => by
  obtain ⟨v, w', h1, h2, h3⟩ := H w hw
  exact ⟨v, w', h1, h2, hr _ _ h3⟩
/-- the same value whatever blocks come ahead of the call; and it only makes blocks -/
def FxQ (P : Program) (f : FuncId) (args : Array Value) (h : Heap) (v : Value) : Prop :=
  ∀ h1, ExtH h h1 → Fx P f args h1 (fun u h2 => u = v ∧ ExtH h1 h2)
def newk (h : Heap) (o : Obj) (k : Heap → Prop) : Prop := ∀ h', Newed h h' o → k h'
def storek (size b off : Nat) (v : Value) (h : Heap) (k : Heap → Prop) : Prop :=
  match v with
  | .agg cs => ∃ l t, Blk h b l t ∧ (off + cs.size ≤ l.length ∧ cs.size = size ∧ ∀ x ∈ cs.toList, x.oneCell' = true) ∧ ∀ h', Wrote h h' b (splice l off cs.toList) t → k h'
  | .tuple _ => False
  | v => if size = 1 then ∃ l t, Blk h b l t ∧ off < l.length ∧ ∀ h', Wrote h h' b (l.set off v) t → k h' else False
def builtinV (b : Builtin) (ts : Array TypeId) (t : TypeId) (vs : Array Value) : Sem Value :=
  match b with
  | .append => Builtin.append_ ts t vs
  | .copy => Builtin.copy_ ts t vs
  | .min => Builtin.min_ ts t vs
  | .max => Builtin.max_ ts t vs
  | .cap => Builtin.cap_ ts t vs
  | _ => stuck ""
/-- how an operation that makes or writes memory, or calls, comes out -/
def opi (P : Program) (o : Oper) (fr : Fr) (h : Heap) (k : Value → Heap → Prop) : Prop :=
  match o.op with
  | .alloc T => match P.info? T with
    | some inf => match inf.zero with
      | some z => newk h (.cells z.cells T) fun h' => k (.pointer (some ⟨h.size, 0, none⟩)) h'
      | none => False
    | none => False
  | .box T x => evk fr x fun v => newk h (.cells v.cells T) fun h' => k (.pointer (some ⟨h.size, 0, none⟩)) h'
  | .buildSlice t len parts => ∃ vs, evl fr parts.toList = some vs ∧ ∃ c e,
      (∀ w, (Instr.buildSlice t len vs.toArray).run P w = .ok (.slice (some ⟨w.heap.size, 0, none⟩) len len) (w.alloc (.cells c e))) ∧
      newk h (.cells c e) fun h' => k (.slice (some ⟨h.size, 0, none⟩) len len) h'
  | .makeSlice t l c => evk fr l fun lv => evk fr c fun cv => match lv, cv with
    | .int _ l, .int _ c => match P.underlying t with
      | some (.slice e) => match P.info? e with
        | some inf => match inf.zero with
          | some z => (0 ≤ l ∧ l ≤ c ∧ (inf.bytes : Int) * c ≤ 281474976710656 ∧ c ≤ 9223372036854775807) ∧
              newk h (.cells (madeCells z.cells (c.toNat * inf.size)) e) fun h' => k (.slice (some ⟨h.size, 0, none⟩) l.toNat c.toNat) h'
          | none => False
        | none => False
      | _ => False
    | _, _ => False
  | .store T x v => evk fr x fun xv => evk fr v fun v => match xv with
    | .pointer (some ⟨b, off, none⟩) => match P.info? T with
      | some inf => storek inf.size b off v h fun h' => k undef h'
      | none => False
    | _ => False
  | .convert s t x => evk fr x fun v => ∃ R, RunsV P (convert s t v) h R ∧ ∀ u h', R u h' → k u h'
  | .call c => match c.callee with
    | .value f => evk fr f fun fv => match fv with
      | .func (.func f) first cap => ∃ vs, evs fr c.args.toList = some vs ∧ ∃ R, Fx P f (first ++ vs.toArray ++ cap) h R ∧ ∀ v h', R v h' → k v h'
      | _ => False
    | .builtin b => ∃ vs, evs fr c.args.toList = some vs ∧ ∃ R, RunsV P (builtinV b c.argTypes o.type vs.toArray) h R ∧ ∀ v h', R v h' → k v h'
    | _ => False
  | .makeMap _ none => newk h (.map #[] 0) fun h' => k (.map (some h.size)) h'
  | .mapUpdate t m x y => evk fr m fun mv => evk fr x fun xv => evk fr y fun yv => ∃ R, RunsU P (Instr.mapUpdate t mv xv yv) h R ∧ ∀ h', R h' → k undef h'
  | .insert t m x y => evk fr m fun mv => evk fr x fun xv => evk fr y fun yv => ∃ R, RunsU P (Instr.mapUpdate t mv xv yv) h R ∧ ∀ h', R h' → k undef h'
  | _ => False
def quietOp (P : Program) (o : Oper) : Bool :=
  match o.op with
  | .alloc _ => false
  | .box _ _ => false
  | .buildSlice _ _ _ => false
  | .makeSlice _ _ _ => false
  | .store _ _ _ => false
  | .makeMap _ _ => false
  | .mapUpdate _ _ _ _ => false
  | .insert _ _ _ _ => false
  | .convert s t _ => match P.underlying t with
    | some (.int _) => true
    | some .string => match P.underlying s with
      | some .string => true
      | _ => false
    | _ => false
  | .call c => match c.callee with
    | .builtin .len => true
    | _ => false
  | _ => true
def opx (P : Program) (o : Oper) (fr : Fr) (h : Heap) (k : Value → Heap → Prop) : Prop :=
  match quietOp P o with
  | true => opq P o fr h (fun v => k v h)
  | false => opi P o fr h k
/-! ### it is enough -/
/-- what an operation that runs comes to: a value, or a call -/
def Comes' (P : Program) (r : Result Next) (w : World) (k : Value → Heap → Prop) : Prop :=
  match r with
  | .ok (.value v) w' => SameEnv w w' ∧ k v w'.heap
  | .ok .skip w' => SameEnv w w' ∧ k undef w'.heap
  | .ok (.enter f args) w' => w' = w ∧ Calls P f args w (fun e w'' => ∃ v, e = .returned v ∧ SameEnv w w'' ∧ k v w''.heap)
  | _ => False
theorem Comes'.mono {P : Program} {r : Result Next} {w : World} {k k' : Value → Heap → Prop} (H : Comes' P r w k) (hk : ∀ v h, k v h → k' v h) : Comes' P r w k' := by
  cases r with
  | halt x w' => exact H
  | ok nx w' =>
    cases nx <;> simp only [Comes'] at H ⊢
    case value v => exact ⟨H.1, hk _ _ H.2⟩
    case skip => exact ⟨H.1, hk _ _ H.2⟩
    case enter f args =>
      refine ⟨H.1, H.2.mono ?_⟩
      rintro e w'' ⟨v, he, hs, h2⟩
      exact ⟨v, he, hs, hk _ _ h2⟩
theorem heap_setRow (w : World) (g : Nat) (cs : Array Value) (cur : Array Value) (t : TypeId) (hg : w.heap[g]? = some (.cells cur t (0, 0))) : Wrote w.heap (w.setRow g cs).heap g cs.toList t :=
  ⟨by simp, setRow_heap w g cur cs t (0, 0) hg, fun c hc => setRow_other w g c cs hc⟩
theorem run_sizeOf {P : Program} {T : TypeId} {inf : TypeInfo} (hi : P.info? T = some inf) (w : World) : (sizeOf T).run P w = .ok inf.size w := by simp [sizeOf, typeInfo, hi]
theorem storek_run {P : Program} {T : TypeId} {inf : TypeInfo} (hi : P.info? T = some inf) {b off : Nat} {v : Value} {h : Heap} {k : Heap → Prop} (H : storek inf.size b off v h k) {w : World} (hw : w.heap = h) :
    ∃ w', (storeVar T ⟨b, off, none⟩ v).run P w = .ok () w' ∧ SameEnv w w' ∧ k w'.heap := by
  subst hw
  unfold storek at H
  split at H
  · rename_i cs
    obtain ⟨l, t, hb, ⟨h1, h2, h3⟩, H⟩ := H
    have hst := run_storeCells_at P b off t cs.toList 0 l.toArray w hb (by simpa using h1) h3
    refine ⟨w.setRow b (l.toArray.toList.take (off + 0) ++ cs.toList ++ l.toArray.toList.drop (off + 0 + cs.toList.length)).toArray, ?_, ⟨rfl, rfl, rfl⟩,
      H _ (by simpa [splice] using heap_setRow w b (l.toArray.toList.take (off + 0) ++ cs.toList ++ l.toArray.toList.drop (off + 0 + cs.toList.length)).toArray l.toArray t hb)⟩
    simp [storeVar, run_sizeOf hi, Value.cells, h2, hst]
  · exact H.elim
  · rename_i hna hnt
    split at H
    · rename_i hs
      obtain ⟨l, t, hb, h1, H⟩ := H
      have hc : v.cells = #[v] := by cases v <;> simp_all [Value.cells]
      have ho : v.oneCell' = true := by cases v <;> simp_all [Value.oneCell']
      have hst := run_storeCells_at P b off t [v] 0 l.toArray w hb (by simp; omega) (by simpa using ho)
      refine ⟨w.setRow b (l.toArray.toList.take (off + 0) ++ [v] ++ l.toArray.toList.drop (off + 0 + [v].length)).toArray, ?_, ⟨rfl, rfl, rfl⟩, H _ ?_⟩
      · simp [storeVar, run_sizeOf hi, hc, hs, hst]
      · have hw := heap_setRow w b (l.toArray.toList.take (off + 0) ++ [v] ++ l.toArray.toList.drop (off + 0 + [v].length)).toArray l.toArray t hb
        have e : l.take off ++ [v] ++ l.drop (off + 1) = l.set off v := by
          rw [List.set_eq_take_append_cons_drop, if_pos h1]; simp
        simpa [e] using hw
    · exact H.elim
theorem opi_sound {P : Program} {o : Oper} {fr : Fr} {h : Heap} {k : Value → Heap → Prop} {n : Nat} {a : Act} (hF : Hold ds n fr a) (H : opi P o fr h k) {w : World} (hw : w.heap = h) :
    Comes' P ((execOp a.eval o).run P w) w k := by
  subst hw
  unfold opi at H
  split at H
  · rename_i T ho
    split at H
    · rename_i inf hi
      split at H
      · rename_i z hz
        have : (execOp a.eval o).run P w = .ok (.value (.pointer (some ⟨w.heap.size, 0, none⟩))) (w.alloc (.cells z.cells T)) := by
          simp [execOp, ho, Instr.alloc, zeroValue, typeInfo, hi, hz, newVar, newRow]
        rw [this]
        exact ⟨⟨rfl, rfl, rfl⟩, H _ (Newed.push _ _)⟩
      · exact H.elim
    · exact H.elim
  · rename_i T x ho
    obtain ⟨v, hv, H⟩ := evk_elim H
    have : (execOp a.eval o).run P w = .ok (.value (.pointer (some ⟨w.heap.size, 0, none⟩))) (w.alloc (.cells v.cells T)) := by
      simp [execOp, ho, hF.ev hv, Instr.box, newVar, newRow]
    rw [this]
    exact ⟨⟨rfl, rfl, rfl⟩, H _ (Newed.push _ _)⟩
  · rename_i t len parts ho
    obtain ⟨vs, hvs, c, e, hc, H⟩ := H
    have e1 : parts.map (fun p => (p.1, a.eval p.2)) = vs.toArray := by
      apply Array.ext'
      simpa using mapM_ev hF parts.toList vs hvs
    have : (execOp a.eval o).run P w = .ok (.value (.slice (some ⟨w.heap.size, 0, none⟩) len len)) (w.alloc (.cells c e)) := by
      simp only [execOp, ho, Sem.run_bind]
      rw [show (parts.map fun x => match x with | (i, x) => (i, a.eval x)) = vs.toArray from e1, hc]
      rfl
    rw [this]
    exact ⟨⟨rfl, rfl, rfl⟩, H _ (Newed.push _ _)⟩
  · rename_i t l c ho
    obtain ⟨lv, hlv, H⟩ := evk_elim H
    obtain ⟨cv, hcv, H⟩ := evk_elim H
    split at H
    · rename_i kl li kc ci _
      split at H
      · rename_i e ht
        split at H
        · rename_i inf hi
          split at H
          · rename_i z hz
            obtain ⟨⟨h0, h1, h2, h3⟩, H⟩ := H
            have hr := run_make (P := P) w t e inf z ht hi hz kl kc li ci h0 h1 h2 h3
            have : (execOp a.eval o).run P w = .ok (.value (.slice (some ⟨w.heap.size, 0, none⟩) li.toNat ci.toNat)) (w.alloc (.cells (madeCells z.cells (ci.toNat * inf.size)) e)) := by
              simp [execOp, ho, hF.ev hlv, hF.ev hcv, hr]
            rw [this]
            exact ⟨⟨rfl, rfl, rfl⟩, H _ (Newed.push _ _)⟩
          · exact H.elim
        · exact H.elim
      · exact H.elim
    · exact H.elim
  · rename_i T x v ho
    obtain ⟨xv, hxv, H⟩ := evk_elim H
    obtain ⟨u, hu, H⟩ := evk_elim H
    split at H
    · split at H
      · rename_i inf hi
        obtain ⟨w', hr, hs, H⟩ := storek_run hi H rfl
        have : (execOp a.eval o).run P w = .ok .skip w' := by
          simp [execOp, ho, hF.ev hxv, hF.ev hu, Instr.storeAt, Instr.sureAddr, hr]
        rw [this]
        exact ⟨hs, H⟩
      · exact H.elim
    · exact H.elim
  · rename_i s t x ho
    obtain ⟨v, hv, R, hR, H⟩ := evk_elim H
    obtain ⟨u, w', hr, hs, hR⟩ := hR w rfl
    have : (execOp a.eval o).run P w = .ok (.value u) w' := by simp [execOp, ho, hF.ev hv, hr]
    rw [this]
    exact ⟨hs, H _ _ hR⟩
  · rename_i c ho
    split at H
    · rename_i f hc
      obtain ⟨fv, hfv, H⟩ := evk_elim H
      split at H
      · rename_i f' first cap
        obtain ⟨vs, hvs, R, hR, H⟩ := H
        have e1 : c.args.map a.eval = vs.toArray := by
          apply Array.ext'
          simpa using mapM_evs hF c.args.toList vs hvs
        have hex : ∀ w, (execOp a.eval o).run P w = (callFunc f' (first ++ vs.toArray ++ cap)).run P w := fun w => by
          simp [execOp, ho, resolve, hc, hF.ev hfv, Deferred.ofValue, invoke, e1]
        rw [hex]
        rcases hR with ⟨hp, hR⟩ | hR
        · have hcf : (callFunc f' (first ++ vs.toArray ++ cap)).run P w = .ok (.enter f' (first ++ vs.toArray ++ cap)) w := by
            unfold plain at hp
            split at hp
            · rename_i fn hfn
              simp only [Bool.and_eq_true, bne_iff_ne, ne_eq] at hp
              obtain ⟨body, hb⟩ := Option.isSome_iff_exists.1 hp.1
              simp [callFunc, hfn, hp.2, hb]
            · cases hp
          rw [hcf]
          refine ⟨rfl, (hR w rfl).mono ?_⟩
          rintro e w' ⟨v, he, hs, hr⟩
          exact ⟨v, he, hs, H _ _ hr⟩
        · obtain ⟨v, w', hr, hs, hR⟩ := hR w rfl
          rw [hr]
          exact ⟨hs, H _ _ hR⟩
      · exact H.elim
    · rename_i b hc
      obtain ⟨vs, hvs, R, hR, H⟩ := H
      have e1 : c.args.map a.eval = vs.toArray := by
        apply Array.ext'
        simpa using mapM_evs hF c.args.toList vs hvs
      obtain ⟨u, w', hr, hs, hR⟩ := hR w rfl
      have : (execOp a.eval o).run P w = .ok (.value u) w' := by
        cases b <;> first
          | (simp only [builtinV] at hr; simp [execOp, ho, resolve, hc, invoke, builtin, e1, hr]; done)
          | (simp [builtinV, stuck, Sem.run] at hr)
      rw [this]
      exact ⟨hs, H _ _ hR⟩
    · exact H.elim
  · rename_i t ho
    have : (execOp a.eval o).run P w = .ok (.value (.map (some w.heap.size))) (w.alloc (.map #[] 0)) := by
      simp [execOp, ho, Instr.makeMap]
    rw [this]
    exact ⟨⟨rfl, rfl, rfl⟩, H _ (Newed.push _ _)⟩
  · rename_i t m x y ho
    obtain ⟨mv, hm, H⟩ := evk_elim H
    obtain ⟨xv, hx, H⟩ := evk_elim H
    obtain ⟨yv, hy, R, hR, H⟩ := evk_elim H
    obtain ⟨w', hr, hs, hR⟩ := hR w rfl
    have : (execOp a.eval o).run P w = .ok .skip w' := by simp [execOp, ho, hF.ev hm, hF.ev hx, hF.ev hy, hr]
    rw [this]
    exact ⟨hs, H _ hR⟩
  · rename_i t m x y ho
    obtain ⟨mv, hm, H⟩ := evk_elim H
    obtain ⟨xv, hx, H⟩ := evk_elim H
    obtain ⟨yv, hy, R, hR, H⟩ := evk_elim H
    obtain ⟨w', hr, hs, hR⟩ := hR w rfl
    have : (execOp a.eval o).run P w = .ok .skip w' := by simp [execOp, ho, hF.ev hm, hF.ev hx, hF.ev hy, hr]
    rw [this]
    exact ⟨hs, H _ hR⟩
  · exact H.elim
theorem opx_sound {P : Program} {o : Oper} {fr : Fr} {h : Heap} {k : Value → Heap → Prop} {n : Nat} {a : Act} (hF : Hold ds n fr a) (H : opx P o fr h k) {w : World} (hw : w.heap = h) :
    Comes' P ((execOp a.eval o).run P w) w k := by
  unfold opx at H
  split at H
  · obtain ⟨v, hk, hr⟩ := opq_sound hF H
    rw [hr w (hw ▸ ExtH.refl _)]
    exact ⟨SameEnv.refl w, hw ▸ hk⟩
  · exact opi_sound hF H hw
theorem wp_of_comes {P : Program} {o : Oper} {a : Act} {w : World} {k : Value → Heap → Prop} {K : Act → World → Prop} {Q : Exit → Act → World → Prop} (H : Comes' P ((execOp a.eval o).run P w) w k)
    (hK : ∀ v w', SameEnv w w' → k v w'.heap → K (a.put o.dst v) w') : o.wp P a w K Q := by
  unfold Oper.wp
  generalize (execOp a.eval o).run P w = r at *
  cases r with
  | halt x w' => exact H.elim
  | ok nx w' =>
    cases nx <;> simp only [Comes'] at H <;> simp only [Oper.upon]
    case value v => exact hK _ _ H.1 H.2
    case skip => exact hK _ _ H.1 H.2
    case enter f args =>
      obtain ⟨rfl, H⟩ := H
      refine H.mono ?_
      rintro e w'' ⟨v, rfl, hs, hk⟩
      exact hK _ _ hs hk
end Go.Proofs.YtkdmpdbbcgdfkaaGreatDoor.Vm
