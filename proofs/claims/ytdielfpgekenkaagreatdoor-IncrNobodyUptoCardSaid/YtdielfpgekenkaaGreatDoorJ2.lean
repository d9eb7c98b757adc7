/-
  Functions and their contracts over a heap; the operations that make or write memory; regions, drawn or not; branches, loops; from a body to a contract.
  Regions, drawn or not; branches, blocks, loops; from a body to a contract.
-/
import Derived.Test.YtdielfpgekenkaaGreatDoorJ1
namespace Go.Proofs.YtdielfpgekenkaaGreatDoor.Vm
open Go
variable {ds : List Deferred}
set_option linter.unusedSimpArgs false
structure SameEnv (w w' : World) : Prop where
  os : w'.os = w.os
  tape : w'.tape = w.tape
  output : w'.output = w.output
theorem SameEnv.refl (w : World) : SameEnv w w := ⟨rfl, rfl, rfl⟩
theorem SameEnv.trans {a b c : World} (h : SameEnv a b) (k : SameEnv b c) : SameEnv a c := ⟨k.os.trans h.os, k.tape.trans h.tape, k.output.trans h.output⟩
theorem Ext.of {w w' : World} (h : SameEnv w w') (k : ExtH w.heap w'.heap) : Ext w w' := ⟨h.os, h.tape, h.output, k.size, k.block⟩
theorem Ext.env {w w' : World} (h : Ext w w') : SameEnv w w' := ⟨h.os, h.tape, h.output⟩
theorem Ext.heap {w w' : World} (h : Ext w w') : ExtH w.heap w'.heap := ⟨h.size, h.block⟩
/-- a step of the model that yields a value -/
def RunsV (P : Program) (s : Sem Value) (h : Heap) (R : Value → Heap → Prop) : Prop :=
  ∀ w, w.heap = h → ∃ v w', s.run P w = .ok v w' ∧ SameEnv w w' ∧ R v w'.heap
/-- a step of the model that yields nothing -/
def RunsU (P : Program) (s : Sem Unit) (h : Heap) (R : Heap → Prop) : Prop :=
  ∀ w, w.heap = h → ∃ w', s.run P w = .ok () w' ∧ SameEnv w w' ∧ R w'.heap
def plain (P : Program) (f : FuncId) : Bool :=
  match P.funcs[f]? with
  | some fn => fn.body.isSome && fn.name != "runtime.NumGoroutine"
  | none => false
/-- THE CONTRACT OF A FUNCTION: called so over heap h it returns, with R of its value and the heap behind it. -/
def Fx (P : Program) (f : FuncId) (args : Array Value) (h : Heap) (R : Value → Heap → Prop) : Prop :=
  (plain P f = true ∧ ∀ w, w.heap = h → Calls P f args w (fun e w' => ∃ v, e = .returned v ∧ SameEnv w w' ∧ R v w'.heap)) ∨
  (∀ w, w.heap = h → ∃ v w', (callFunc f args).run P w = .ok (.value v) w' ∧ SameEnv w w' ∧ R v w'.heap)
theorem Fx.mono {P : Program} {f : FuncId} {args : Array Value} {h : Heap} {R R' : Value → Heap → Prop} (H : Fx P f args h R) (hr : ∀ v h', R v h' → R' v h') : Fx P f args h R' := by
  rcases H with ⟨hp, H⟩ | H
  · refine .inl ⟨hp, fun w hw => (H w hw).mono ?_⟩
    rintro e w' ⟨v, he, hs, hR⟩
    exact ⟨v, he, hs, hr _ _ hR⟩
  · refine .inr fun w hw => ?_
    obtain ⟨v, w', h1, h2, h3⟩ := H w hw
    exact ⟨v, w', h1, h2, hr _ _ h3⟩
theorem RunsV.mono {P : Program} {s : Sem Value} {h : Heap} {R R' : Value → Heap → Prop} (H : RunsV P s h R) (hr : ∀ v h', R v h' → R' v h') : RunsV P s h R' := fun w hw => by
  obtain ⟨v, w', h1, h2, h3⟩ := H w hw
  exact ⟨v, w', h1, h2, hr _ _ h3⟩
/-- the same value whatever blocks come ahead of the call; and it only makes blocks -/
def FxQ (P : Program) (f : FuncId) (args : Array Value) (h : Heap) (v : Value) : Prop :=
  ∀ h1, ExtH h h1 → Fx P f args h1 (fun u h2 => u = v ∧ ExtH h1 h2)
def newk (h : Heap) (o : Obj) (k : Heap → Prop) : Prop := ∀ h', Newed h h' o → k h'
def storek (size b off : Nat) (v : Value) (h : Heap) (k : Heap → Prop) : Prop :=
  match v with
  | .agg cs => ∃ l t, Blk h b l t ∧ (off + cs.size ≤ l.length ∧ cs.size = size ∧ ∀ x ∈ cs.toList, x.oneCell' = true) ∧ ∀ h', Wrote h h' b (splice l off cs.toList) t → k h'
  | .tuple _ => False
  | v => if size = 1 then ∃ l t, Blk h b l t ∧ off < l.length ∧ ∀ h', Wrote h h' b (l.set off v) t → k h' else False
def builtinV (b : Builtin) (ts : Array TypeId) (t : TypeId) (vs : Array Value) : Sem Value :=
  match b with
  | .append => Builtin.append_ ts t vs
  | .copy => Builtin.copy_ ts t vs
  | .min => Builtin.min_ ts t vs
  | .max => Builtin.max_ ts t vs
  | .cap => Builtin.cap_ ts t vs
  | .clear => Builtin.clear_ ts t vs
  | _ => stuck ""
/-- how an operation that makes or writes memory, or calls, comes out -/
def opi (P : Program) (o : Oper) (fr : Fr) (h : Heap) (k : Value → Heap → Prop) : Prop :=
  match o.op with
  | .alloc T => match P.info? T with
    | some inf => match inf.zero with
      | some z => newk h (.cells z.cells T) fun h' => k (.pointer (some ⟨h.size, 0, none⟩)) h'
      | none => False
    | none => False
  | .box T x => evk fr x fun v => newk h (.cells v.cells T) fun h' => k (.pointer (some ⟨h.size, 0, none⟩)) h'
  | .buildSlice t len parts => ∃ vs, evl fr parts.toList = some vs ∧ ∃ c e,
      (∀ w, (Instr.buildSlice t len vs.toArray).run P w = .ok (.slice (some ⟨w.heap.size, 0, none⟩) len len) (w.alloc (.cells c e))) ∧
      newk h (.cells c e) fun h' => k (.slice (some ⟨h.size, 0, none⟩) len len) h'
  | .makeSlice t l c => evk fr l fun lv => evk fr c fun cv => match lv, cv with
    | .int _ l, .int _ c => match P.underlying t with
      | some (.slice e) => match P.info? e with
        | some inf => match inf.zero with
          | some z => (0 ≤ l ∧ l ≤ c ∧ (inf.bytes : Int) * c ≤ 281474976710656 ∧ c ≤ 9223372036854775807) ∧
              newk h (.cells (madeCells z.cells (c.toNat * inf.size)) e) fun h' => k (.slice (some ⟨h.size, 0, none⟩) l.toNat c.toNat) h'
          | none => False
        | none => False
      | _ => False
    | _, _ => False
  | .store T x v => evk fr x fun xv => evk fr v fun v => match xv with
    | .pointer (some ⟨b, off, none⟩) => match P.info? T with
      | some inf => storek inf.size b off v h fun h' => k undef h'
      | none => False
    | _ => False
  | .convert s t x => evk fr x fun v => ∃ R, RunsV P (convert s t v) h R ∧ ∀ u h', R u h' → k u h'
  | .call c => match c.callee with
    | .value f => evk fr f fun fv => match fv with
      | .func (.func f) first cap => ∃ vs, evs fr c.args.toList = some vs ∧ ∃ R, Fx P f (first ++ vs.toArray ++ cap) h R ∧ ∀ v h', R v h' → k v h'
      | _ => False
    | .builtin b => ∃ vs, evs fr c.args.toList = some vs ∧ ∃ R, RunsV P (builtinV b c.argTypes o.type vs.toArray) h R ∧ ∀ v h', R v h' → k v h'
    | _ => False
  | .makeMap _ none => newk h (.map #[] 0) fun h' => k (.map (some h.size)) h'
  | .mapUpdate t m x y => evk fr m fun mv => evk fr x fun xv => evk fr y fun yv => ∃ R, RunsU P (Instr.mapUpdate t mv xv yv) h R ∧ ∀ h', R h' → k undef h'
  | .insert t m x y => evk fr m fun mv => evk fr x fun xv => evk fr y fun yv => ∃ R, RunsU P (Instr.mapUpdate t mv xv yv) h R ∧ ∀ h', R h' → k undef h'
  | _ => False
def quietOp (P : Program) (o : Oper) : Bool :=
  match o.op with
  | .alloc _ => false
  | .box _ _ => false
  | .buildSlice _ _ _ => false
  | .makeSlice _ _ _ => false
  | .store _ _ _ => false
  | .makeMap _ _ => false
  | .mapUpdate _ _ _ _ => false
  | .insert _ _ _ _ => false
  | .convert s t _ => match P.underlying t with
    | some (.int _) => true
    | some .string => match P.underlying s with
      | some .string => true
      | _ => false
    | _ => false
  | .call c => match c.callee with
    | .builtin .len => true
    | _ => false
  | _ => true
def opx (P : Program) (o : Oper) (fr : Fr) (h : Heap) (k : Value → Heap → Prop) : Prop :=
  match quietOp P o with
  | true => opq P o fr h (fun v => k v h)
  | false => opi P o fr h k
/-! ### it is enough -/
/-- what an operation that runs comes to: a value, or a call -/
def Comes' (P : Program) (r : Result Next) (w : World) (k : Value → Heap → Prop) : Prop :=
  match r with
  | .ok (.value v) w' => SameEnv w w' ∧ k v w'.heap
  | .ok .skip w' => SameEnv w w' ∧ k undef w'.heap
  | .ok (.enter f args) w' => w' = w ∧ Calls P f args w (fun e w'' => ∃ v, e = .returned v ∧ SameEnv w w'' ∧ k v w''.heap)
  | _ => False
theorem Comes'.mono {P : Program} {r : Result Next} {w : World} {k k' : Value → Heap → Prop} (H : Comes' P r w k) (hk : ∀ v h, k v h → k' v h) : Comes' P r w k' := by
  cases r with
  | halt x w' => exact H
  | ok nx w' =>
    cases nx <;> simp only [Comes'] at H ⊢
    case value v => exact ⟨H.1, hk _ _ H.2⟩
    case skip => exact ⟨H.1, hk _ _ H.2⟩
    case enter f args =>
      refine ⟨H.1, H.2.mono ?_⟩
      rintro e w'' ⟨v, he, hs, h2⟩
      exact ⟨v, he, hs, hk _ _ h2⟩
theorem heap_setRow (w : World) (g : Nat) (cs : Array Value) (cur : Array Value) (t : TypeId) (hg : w.heap[g]? = some (.cells cur t (0, 0))) : Wrote w.heap (w.setRow g cs).heap g cs.toList t :=
  ⟨by simp, setRow_heap w g cur cs t (0, 0) hg, fun c hc => setRow_other w g c cs hc⟩
theorem run_sizeOf {P : Program} {T : TypeId} {inf : TypeInfo} (hi : P.info? T = some inf) (w : World) : (sizeOf T).run P w = .ok inf.size w := by simp [sizeOf, typeInfo, hi]
theorem storek_run {P : Program} {T : TypeId} {inf : TypeInfo} (hi : P.info? T = some inf) {b off : Nat} {v : Value} {h : Heap} {k : Heap → Prop} (H : storek inf.size b off v h k) {w : World} (hw : w.heap = h) :
    ∃ w', (storeVar T ⟨b, off, none⟩ v).run P w = .ok () w' ∧ SameEnv w w' ∧ k w'.heap := by
  subst hw
  unfold storek at H
  split at H
  · rename_i cs
    obtain ⟨l, t, hb, ⟨h1, h2, h3⟩, H⟩ := H
    have hst := run_storeCells_at P b off t cs.toList 0 l.toArray w hb (by simpa using h1) h3
    refine ⟨w.setRow b (l.toArray.toList.take (off + 0) ++ cs.toList ++ l.toArray.toList.drop (off + 0 + cs.toList.length)).toArray, ?_, ⟨rfl, rfl, rfl⟩,
      H _ (by simpa [splice] using heap_setRow w b (l.toArray.toList.take (off + 0) ++ cs.toList ++ l.toArray.toList.drop (off + 0 + cs.toList.length)).toArray l.toArray t hb)⟩
    simp [storeVar, run_sizeOf hi, Value.cells, h2, hst]
  · exact H.elim
  · rename_i hna hnt
    split at H
    · rename_i hs
      obtain ⟨l, t, hb, h1, H⟩ := H
      have hc : v.cells = #[v] := by cases v <;> simp_all [Value.cells]
      have ho : v.oneCell' = true := by cases v <;> simp_all [Value.oneCell']
      have hst := run_storeCells_at P b off t [v] 0 l.toArray w hb (by simp; omega) (by simpa using ho)
      refine ⟨w.setRow b (l.toArray.toList.take (off + 0) ++ [v] ++ l.toArray.toList.drop (off + 0 + [v].length)).toArray, ?_, ⟨rfl, rfl, rfl⟩, H _ ?_⟩
      · simp [storeVar, run_sizeOf hi, hc, hs, hst]
      · have hw := heap_setRow w b (l.toArray.toList.take (off + 0) ++ [v] ++ l.toArray.toList.drop (off + 0 + [v].length)).toArray l.toArray t hb
        have e : l.take off ++ [v] ++ l.drop (off + 1) = l.set off v := by
          rw [List.set_eq_take_append_cons_drop, if_pos h1]; simp
        simpa [e] using hw
    · exact H.elim
theorem opi_sound {P : Program} {o : Oper} {fr : Fr} {h : Heap} {k : Value → Heap → Prop} {n : Nat} {a : Act} (hF : Hold ds n fr a) (H : opi P o fr h k) {w : World} (hw : w.heap = h) :
    Comes' P ((execOp a.eval o).run P w) w k := by
  subst hw
  unfold opi at H
  split at H
  · rename_i T ho
    split at H
    · rename_i inf hi
      split at H
      · rename_i z hz
        have : (execOp a.eval o).run P w = .ok (.value (.pointer (some ⟨w.heap.size, 0, none⟩))) (w.alloc (.cells z.cells T)) := by
          simp [execOp, ho, Instr.alloc, zeroValue, typeInfo, hi, hz, newVar, newRow]
        rw [this]
        exact ⟨⟨rfl, rfl, rfl⟩, H _ (Newed.push _ _)⟩
      · exact H.elim
    · exact H.elim
  · rename_i T x ho
    obtain ⟨v, hv, H⟩ := evk_elim H
    have : (execOp a.eval o).run P w = .ok (.value (.pointer (some ⟨w.heap.size, 0, none⟩))) (w.alloc (.cells v.cells T)) := by
      simp [execOp, ho, hF.ev hv, Instr.box, newVar, newRow]
    rw [this]
    exact ⟨⟨rfl, rfl, rfl⟩, H _ (Newed.push _ _)⟩
  · rename_i t len parts ho
    obtain ⟨vs, hvs, c, e, hc, H⟩ := H
    have e1 : parts.map (fun p => (p.1, a.eval p.2)) = vs.toArray := by
      apply Array.ext'
      simpa using mapM_ev hF parts.toList vs hvs
    have : (execOp a.eval o).run P w = .ok (.value (.slice (some ⟨w.heap.size, 0, none⟩) len len)) (w.alloc (.cells c e)) := by
      simp only [execOp, ho, Sem.run_bind]
      rw [show (parts.map fun x => match x with | (i, x) => (i, a.eval x)) = vs.toArray from e1, hc]
      rfl
    rw [this]
    exact ⟨⟨rfl, rfl, rfl⟩, H _ (Newed.push _ _)⟩
  · rename_i t l c ho
    obtain ⟨lv, hlv, H⟩ := evk_elim H
    obtain ⟨cv, hcv, H⟩ := evk_elim H
    split at H
    · rename_i kl li kc ci _
      split at H
      · rename_i e ht
        split at H
        · rename_i inf hi
          split at H
          · rename_i z hz
            obtain ⟨⟨h0, h1, h2, h3⟩, H⟩ := H
            have hr := run_make (P := P) w t e inf z ht hi hz kl kc li ci h0 h1 h2 h3
            have : (execOp a.eval o).run P w = .ok (.value (.slice (some ⟨w.heap.size, 0, none⟩) li.toNat ci.toNat)) (w.alloc (.cells (madeCells z.cells (ci.toNat * inf.size)) e)) := by
              simp [execOp, ho, hF.ev hlv, hF.ev hcv, hr]
            rw [this]
            exact ⟨⟨rfl, rfl, rfl⟩, H _ (Newed.push _ _)⟩
          · exact H.elim
        · exact H.elim
      · exact H.elim
    · exact H.elim
  · rename_i T x v ho
    obtain ⟨xv, hxv, H⟩ := evk_elim H
    obtain ⟨u, hu, H⟩ := evk_elim H
    split at H
    · split at H
      · rename_i inf hi
        obtain ⟨w', hr, hs, H⟩ := storek_run hi H rfl
        have : (execOp a.eval o).run P w = .ok .skip w' := by
          simp [execOp, ho, hF.ev hxv, hF.ev hu, Instr.storeAt, Instr.sureAddr, hr]
        rw [this]
        exact ⟨hs, H⟩
      · exact H.elim
    · exact H.elim
  · rename_i s t x ho
    obtain ⟨v, hv, R, hR, H⟩ := evk_elim H
    obtain ⟨u, w', hr, hs, hR⟩ := hR w rfl
    have : (execOp a.eval o).run P w = .ok (.value u) w' := by simp [execOp, ho, hF.ev hv, hr]
    rw [this]
    exact ⟨hs, H _ _ hR⟩
  · rename_i c ho
    split at H
    · rename_i f hc
      obtain ⟨fv, hfv, H⟩ := evk_elim H
      split at H
      · rename_i f' first cap
        obtain ⟨vs, hvs, R, hR, H⟩ := H
        have e1 : c.args.map a.eval = vs.toArray := by
          apply Array.ext'
          simpa using mapM_evs hF c.args.toList vs hvs
        have hex : ∀ w, (execOp a.eval o).run P w = (callFunc f' (first ++ vs.toArray ++ cap)).run P w := fun w => by
          simp [execOp, ho, resolve, hc, hF.ev hfv, Deferred.ofValue, invoke, e1]
        rw [hex]
        rcases hR with ⟨hp, hR⟩ | hR
        · have hcf : (callFunc f' (first ++ vs.toArray ++ cap)).run P w = .ok (.enter f' (first ++ vs.toArray ++ cap)) w := by
            unfold plain at hp
            split at hp
            · rename_i fn hfn
              simp only [Bool.and_eq_true, bne_iff_ne, ne_eq] at hp
              obtain ⟨body, hb⟩ := Option.isSome_iff_exists.1 hp.1
              simp [callFunc, hfn, hp.2, hb]
            · cases hp
          rw [hcf]
          refine ⟨rfl, (hR w rfl).mono ?_⟩
          rintro e w' ⟨v, he, hs, hr⟩
          exact ⟨v, he, hs, H _ _ hr⟩
        · obtain ⟨v, w', hr, hs, hR⟩ := hR w rfl
          rw [hr]
          exact ⟨hs, H _ _ hR⟩
      · exact H.elim
    · rename_i b hc
      obtain ⟨vs, hvs, R, hR, H⟩ := H
      have e1 : c.args.map a.eval = vs.toArray := by
        apply Array.ext'
        simpa using mapM_evs hF c.args.toList vs hvs
      obtain ⟨u, w', hr, hs, hR⟩ := hR w rfl
      have : (execOp a.eval o).run P w = .ok (.value u) w' := by
        cases b <;> first
          | (simp only [builtinV] at hr; simp [execOp, ho, resolve, hc, invoke, builtin, e1, hr]; done)
          | (simp [builtinV, stuck, Sem.run] at hr)
      rw [this]
      exact ⟨hs, H _ _ hR⟩
    · exact H.elim
  · rename_i t ho
    have : (execOp a.eval o).run P w = .ok (.value (.map (some w.heap.size))) (w.alloc (.map #[] 0)) := by
      simp [execOp, ho, Instr.makeMap]
    rw [this]
    exact ⟨⟨rfl, rfl, rfl⟩, H _ (Newed.push _ _)⟩
  · rename_i t m x y ho
    obtain ⟨mv, hm, H⟩ := evk_elim H
    obtain ⟨xv, hx, H⟩ := evk_elim H
    obtain ⟨yv, hy, R, hR, H⟩ := evk_elim H
    obtain ⟨w', hr, hs, hR⟩ := hR w rfl
    have : (execOp a.eval o).run P w = .ok .skip w' := by simp [execOp, ho, hF.ev hm, hF.ev hx, hF.ev hy, hr]
    rw [this]
    exact ⟨hs, H _ hR⟩
  · rename_i t m x y ho
    obtain ⟨mv, hm, H⟩ := evk_elim H
    obtain ⟨xv, hx, H⟩ := evk_elim H
    obtain ⟨yv, hy, R, hR, H⟩ := evk_elim H
    obtain ⟨w', hr, hs, hR⟩ := hR w rfl
    have : (execOp a.eval o).run P w = .ok .skip w' := by simp [execOp, ho, hF.ev hm, hF.ev hx, hF.ev hy, hr]
    rw [this]
    exact ⟨hs, H _ hR⟩
  · exact H.elim
theorem opx_sound {P : Program} {o : Oper} {fr : Fr} {h : Heap} {k : Value → Heap → Prop} {n : Nat} {a : Act} (hF : Hold ds n fr a) (H : opx P o fr h k) {w : World} (hw : w.heap = h) :
    Comes' P ((execOp a.eval o).run P w) w k := by
  unfold opx at H
  split at H
  · obtain ⟨v, hk, hr⟩ := opq_sound hF H
    rw [hr w (hw ▸ ExtH.refl _)]
    exact ⟨SameEnv.refl w, hw ▸ hk⟩
  · exact opi_sound hF H hw
theorem wp_of_comes {P : Program} {o : Oper} {a : Act} {w : World} {k : Value → Heap → Prop} {K : Act → World → Prop} {Q : Exit → Act → World → Prop} (H : Comes' P ((execOp a.eval o).run P w) w k)
    (hK : ∀ v w', SameEnv w w' → k v w'.heap → K (a.put o.dst v) w') : o.wp P a w K Q := by
  unfold Oper.wp
  generalize (execOp a.eval o).run P w = r at *
  cases r with
  | halt x w' => exact H.elim
  | ok nx w' =>
    cases nx <;> simp only [Comes'] at H <;> simp only [Oper.upon]
    case value v => exact hK _ _ H.1 H.2
    case skip => exact hK _ _ H.1 H.2
    case enter f args =>
      obtain ⟨rfl, H⟩ := H
      refine H.mono ?_
      rintro e w'' ⟨v, rfl, hs, hk⟩
      exact hK _ _ hs hk
end Go.Proofs.YtdielfpgekenkaaGreatDoor.Vm
namespace Go.Proofs.YtdielfpgekenkaaGreatDoor.Vm
open Go
variable {ds : List Deferred}
set_option linter.unusedSimpArgs false
/-- an operation's guard: A where it is carried out, B where it is passed over -/
def gk (all : List Oper) (o : Oper) (fr : Fr) (A B : Prop) : Prop :=
  match o.guard with
  | none => A
  | some (j, want) => match (all[j]?).bind (·.dst) with
    | some d => match lk fr d with
      | some (.bool b) => match b, want with
        | true, true => A
        | false, false => A
        | true, false => B
        | false, true => B
      | some (.tuple _) => B
      | _ => False
    | none => False
theorem gk_elim {all : List Oper} {o : Oper} {fr : Fr} {A B : Prop} (H : gk all o fr A B) {n : Nat} {a : Act} (hF : Hold ds n fr a) :
    (Region.wanted o (yielded all.toArray a.tmps) = true ∧ A) ∨ (Region.wanted o (yielded all.toArray a.tmps) = false ∧ B) := by
  unfold gk at H
  split at H
  · rename_i hg; exact .inl ⟨by simp [Region.wanted, hg], H⟩
  · rename_i j want hg
    split at H
    · rename_i d hd
      split at H
      · rename_i b hb
        obtain ⟨h1, h2⟩ := hF.has d _ hb
        have h3 : a.tmps[d]? = some (.bool b) := by
          rw [Array.getD_eq_getD_getElem?] at h2
          have : d < a.tmps.size := by rw [hF.size]; exact h1
          simpa [Array.getElem?_eq_getElem this] using h2
        have hy : yielded all.toArray a.tmps j = some b := by
          unfold yielded
          rw [show ((all.toArray[j]?).bind (·.dst)) = some d by simpa using hd]
          simp [h3]
        split at H
        · exact .inl ⟨by simp [Region.wanted, hg, hy], H⟩
        · exact .inl ⟨by simp [Region.wanted, hg, hy], H⟩
        · exact .inr ⟨by simp [Region.wanted, hg, hy], H⟩
        · exact .inr ⟨by simp [Region.wanted, hg, hy], H⟩
      · rename_i us hb
        obtain ⟨h1, h2⟩ := hF.has d _ hb
        have h3 : a.tmps[d]? = some (.tuple us) := by
          rw [Array.getD_eq_getD_getElem?] at h2
          have : d < a.tmps.size := by rw [hF.size]; exact h1
          simpa [Array.getElem?_eq_getElem this] using h2
        have hy : yielded all.toArray a.tmps j = none := by
          unfold yielded
          rw [show ((all.toArray[j]?).bind (·.dst)) = some d by simpa using hd]
          simp [h3]
        exact .inr ⟨by simp [Region.wanted, hg, hy], H⟩
      · exact H.elim
    · exact H.elim
/-- the operations of a list, one behind the other -/
def evOps (P : Program) (all : List Oper) : List Oper → Fr → Heap → (Fr → Heap → Prop) → Prop
  | [], fr, h, K => K fr h
  | o :: r, fr, h, K => gk all o fr (opx P o fr h fun v h' => evOps P all r (put fr o.dst v) h' K) (evOps P all r (put fr o.dst undef) h K)
def dstsB (n : Nat) (ops : List Oper) : Bool := ops.all fun o => match o.dst with
  | some d => Nat.blt d n
  | none => true
theorem dok_of {n : Nat} {ops : List Oper} (h : dstsB n ops = true) {o : Oper} (ho : o ∈ ops) : dok n o.dst := by
  have := List.all_eq_true.1 h o ho
  unfold dok
  split
  · rename_i d hd; simp only [hd] at this; rwa [Nat.blt_eq] at this
  · trivial
theorem evOps_sound {P : Program} {n : Nat} {all : List Oper} {Q : Exit → Act → World → Prop} {K : Fr → Heap → Prop} : ∀ (l : List Oper), (∀ o ∈ l, dok n o.dst) → ∀ (fr : Fr) (h : Heap) (a : Act) (w : World),
    evOps P all l fr h K → Hold ds n fr a → w.heap = h → (∀ fr' a' w', Hold ds n fr' a' → SameEnv w w' → K fr' w'.heap → Q .normal a' w') → wpList P all.toArray Q l a w
  | [], _, fr, h, a, w, H, hF, hw, hQ => hQ fr a w hF (SameEnv.refl w) (hw ▸ H)
  | o :: r, hd, fr, h, a, w, H, hF, hw, hQ => by
    unfold evOps at H
    unfold wpList
    rcases gk_elim H hF with ⟨hg, H⟩ | ⟨hg, H⟩
    · rw [if_pos hg]
      refine .inl (wp_of_comes (opx_sound hF H hw) fun v w' hs hk => ?_)
      exact evOps_sound r (fun o ho => hd o (by simp [ho])) _ _ _ w' hk (hF.put _ _ (hd o (by simp))) rfl (fun fr' a' w'' h1 h2 h3 => hQ fr' a' w'' h1 (hs.trans h2) h3)
    · rw [if_neg (by simp [hg])]
      exact evOps_sound r (fun o ho => hd o (by simp [ho])) _ _ _ w H (hF.put _ _ (hd o (by simp))) hw hQ
/-- an operation of a drawn region's head that yields the same whatever blocks come -/
def opqc (P : Program) (o : Oper) (fr : Fr) (h : Heap) (k : Value → Prop) : Prop :=
  match quietOp P o with
  | true => opq P o fr h k
  | false => match o.op with
    | .call c => match c.callee with
      | .value f => evk fr f fun fv => match fv with
        | .func (.func f) first cap => ∃ vs, evs fr c.args.toList = some vs ∧ ∃ v, FxQ P f (first ++ vs.toArray ++ cap) h v ∧ k v
        | _ => False
      | _ => False
    | _ => False
/-- blocks below B are as they were -/
structure ExtU (B : Nat) (h h' : Heap) : Prop where
  size : h.size ≤ h'.size
  block : ∀ b, b < B → b < h.size → h'[b]? = h[b]?
theorem ExtH.toU {h h' : Heap} (B : Nat) (e : ExtH h h') : ExtU B h h' := ⟨e.size, fun b _ hb => e.block b hb⟩
/-- h0: the heap at the region's beginning -/
def evH (P : Program) (all : List Oper) (imp : Nat → Bool) (h0 : Heap) (L : Fr → Heap → Prop) : List Nat → Fr → Heap → Prop
  | [], fr, h => ∀ h', ExtH h h' → L fr h'
  | i :: p, fr, h => match all[i]? with
    | none => False
    | some o => gk all o fr
        (match imp i with
          | true => ∀ h1, ExtH h h1 → opx P o fr h1 fun v h2 => ExtU h0.size h1 h2 ∧ ∀ h3, ExtH h2 h3 → evH P all imp h0 L p (put fr o.dst v) h3
          | false => opqc P o fr h0 fun v => evH P all imp h0 L p (put fr o.dst v) h)
        (evH P all imp h0 L p (put fr o.dst undef) h)
/-- the blocks of K are as they were -/
structure ExtP (K : Nat → Prop) (h h' : Heap) : Prop where
  size : h.size ≤ h'.size
  block : ∀ b, K b → b < h.size → h'[b]? = h[b]?
theorem ExtH.toP {h h' : Heap} (K : Nat → Prop) (e : ExtH h h') : ExtP K h h' := ⟨e.size, fun b _ hb => e.block b hb⟩
theorem ExtP.refl (K : Nat → Prop) (h : Heap) : ExtP K h h := ⟨Nat.le_refl _, fun _ _ _ => rfl⟩
theorem ExtP.trans {K : Nat → Prop} {a b c : Heap} (x : ExtP K a b) (y : ExtP K b c) : ExtP K a c := ⟨Nat.le_trans x.size y.size, fun i hK hi => (y.block i hK (Nat.lt_of_lt_of_le hi x.size)).trans (x.block i hK hi)⟩
theorem ExtB.ofP {K : Nat → Prop} {w w' : World} (h : SameEnv w w') (k : ExtP K w.heap w'.heap) : ExtB K w w' := ⟨h.os, h.tape, h.output, k.size, k.block⟩
theorem ExtB.heap {K : Nat → Prop} {w w' : World} (h : ExtB K w w') : ExtP K w.heap w'.heap := ⟨h.size, h.block⟩
theorem ExtU.p {B : Nat} {h h' : Heap} (k : ExtU B h h') : ExtP (fun b => b < B) h h' := ⟨k.size, k.block⟩
theorem extX_of_comes {P : Program} {B : Nat → Prop} {o : Oper} {a : Act} {w : World} {k : Value → Heap → Prop} {K : Act → World → Prop}
    (H : Comes' P ((execOp a.eval o).run P w) w fun v h2 => ExtP B w.heap h2 ∧ ∀ h3, ExtH h2 h3 → k v h3)
    (hK : ∀ v w', SameEnv w w' → k v w'.heap → K (a.put o.dst v) w') : extX P B o a w K := by
  unfold extX
  generalize (execOp a.eval o).run P w = r at *
  cases r with
  | halt x w' => exact H.elim
  | ok nx w' =>
    cases nx <;> simp only [Comes'] at H <;> simp only [uponX]
    case value v => exact ⟨ExtB.ofP H.1 H.2.1, fun w3 h3 => hK _ _ (H.1.trans h3.env) (H.2.2 _ h3.heap)⟩
    case skip => exact ⟨ExtB.ofP H.1 H.2.1, fun w3 h3 => hK _ _ (H.1.trans h3.env) (H.2.2 _ h3.heap)⟩
    case enter f args =>
      obtain ⟨rfl, H⟩ := H
      refine ⟨ExtB.refl _ _, H.mono ?_⟩
      rintro e w'' ⟨v, he, hs, hx, hk⟩
      exact ⟨v, he, ExtB.ofP hs hx, fun w3 h3 => hK _ _ (hs.trans h3.env) (hk _ h3.heap)⟩
theorem opqc_sound {P : Program} {o : Oper} {fr : Fr} {h : Heap} {k : Value → Prop} {n : Nat} {a : Act} (hF : Hold ds n fr a) (H : opqc P o fr h k) {w : World} (hw : ExtH h w.heap) :
    ∃ v, k v ∧ ∀ w1, ExtB (fun b => b < h.size) w w1 → uponV P w1 v ((execOp a.eval o).run P w1) := by
  have hB : ∀ {w1 : World}, ExtB (fun b => b < h.size) w w1 → ExtH h w1.heap := fun {w1} e => ⟨Nat.le_trans hw.size e.size, fun b hb => (e.block b hb (Nat.lt_of_lt_of_le hb hw.size)).trans (hw.block b hb)⟩
  unfold opqc at H
  split at H
  · obtain ⟨v, hk, hr⟩ := opq_sound hF H
    exact ⟨v, hk, fun w1 h1 => by rw [hr w1 (hB h1)]; exact ⟨rfl, Ext.refl _⟩⟩
  · rename_i hq
    split at H
    · rename_i c ho
      split at H
      · rename_i f hc
        obtain ⟨fv, hfv, H⟩ := evk_elim H
        split at H
        · rename_i f' first cap
          obtain ⟨vs, hvs, v, hR, hk⟩ := H
          refine ⟨v, hk, fun w1 h1 => ?_⟩
          have hi : opi P o fr w1.heap (fun u h2 => u = v ∧ ExtH w1.heap h2) := by
            unfold opi
            simp only [ho, hc, evk, hfv]
            exact ⟨vs, hvs, _, hR w1.heap (hB h1), fun _ _ h => h⟩
          have hc' := opi_sound hF hi (w := w1) rfl
          generalize (execOp a.eval o).run P w1 = r at *
          cases r with
          | halt x w' => exact hc'.elim
          | ok nx w' =>
            cases nx <;> simp only [Comes'] at hc' <;> simp only [uponV]
            case value u => exact ⟨hc'.2.1, Ext.of hc'.1 hc'.2.2⟩
            case skip => exact ⟨hc'.2.1.symm, Ext.of hc'.1 hc'.2.2⟩
            case enter g args =>
              obtain ⟨rfl, hc'⟩ := hc'
              refine ⟨Ext.refl _, hc'.mono ?_⟩
              rintro e w'' ⟨u, he, hs, rfl, hx⟩
              exact ⟨he, Ext.of hs hx⟩
        · exact H.elim
      · exact H.elim
    · exact H.elim
theorem evH_sound {P : Program} {n : Nat} {all : List Oper} {imp : Nat → Bool} {h0 : Heap} {L : Fr → Heap → Prop} {L' : Act → World → Prop} (hd : ∀ o ∈ all, dok n o.dst) (w0 : World) (hL : ∀ fr a w, Hold ds n fr a → SameEnv w0 w → L fr w.heap → L' a w) :
    ∀ (p : List Nat) (fr : Fr) (h : Heap) (a : Act) (w : World), evH P all imp h0 L p fr h → Hold ds n fr a → ExtH h w.heap → ExtH h0 w.heap → SameEnv w0 w → wpH P (fun b => b < h0.size) all.toArray imp L' p a w
  | [], fr, h, a, w, H, hF, hw, _, hs => hL fr a w hF hs (H _ hw)
  | i :: p, fr, h, a, w, H, hF, hw, hw0, hs => by
    unfold evH at H
    unfold wpH
    cases ho : all[i]? with
    | none => simp [ho] at H
    | some o =>
      simp only [ho] at H
      have hdo : dok n o.dst := hd o (List.mem_of_getElem? ho)
      have ho' : all.toArray[i]? = some o := by simpa using ho
      cases him : imp i with
      | true =>
        simp only [him] at H
        simp only [if_true]
        unfold opX
        simp only [ho']
        rcases gk_elim H hF with ⟨hg, H⟩ | ⟨hg, H⟩
        · rw [if_pos hg]
          refine extX_of_comes (k := fun v h3 => ExtH h0 h3 ∧ evH P all imp h0 L p (put fr o.dst v) h3) ?_ fun v w' hs' hk => ?_
          · refine (opx_sound hF (H w.heap hw) rfl).mono fun v h2 hk => ⟨hk.1.p, fun h3 h23 => ⟨?_, hk.2 h3 h23⟩⟩
            have h02 : ExtH h0 h2 := ⟨Nat.le_trans hw0.size hk.1.size, fun b hb => (hk.1.block b hb (Nat.lt_of_lt_of_le hb hw0.size)).trans (hw0.block b hb)⟩
            exact h02.trans h23
          · exact evH_sound hd w0 hL p _ _ _ w' hk.2 (hF.put _ _ hdo) (ExtH.refl _) hk.1 (hs.trans hs')
        · rw [if_neg (by simp [hg])]
          exact fun w3 h3 => evH_sound hd w0 hL p _ _ _ w3 H (hF.put _ _ hdo) (hw.trans h3.heap) (hw0.trans h3.heap) (hs.trans h3.env)
      | false =>
        simp only [him] at H
        simp only [Bool.false_eq_true, if_false, ho']
        rcases gk_elim H hF with ⟨hg, H⟩ | ⟨hg, H⟩
        · obtain ⟨v, hk, hv⟩ := opqc_sound hF H hw0
          exact ⟨v, .inl ⟨hg, hv⟩, fun w2 h2 => evH_sound hd w0 hL p _ _ _ w2 hk (hF.put _ _ hdo) (hw.trans h2.heap) (hw0.trans h2.heap) (hs.trans h2.env)⟩
        · exact ⟨undef, .inr ⟨hg, rfl⟩, fun w2 h2 => evH_sound hd w0 hL p _ _ _ w2 H (hF.put _ _ hdo) (hw.trans h2.heap) (hw0.trans h2.heap) (hs.trans h2.env)⟩
/-! ### code -/
/-- what holds where a piece of code is left -/
def Post (ds : List Deferred) (w0 : World) (n : Nat) (Q : Exit → Fr → Heap → Prop) : Exit → Act → World → Prop := fun e a w => ∃ fr, Hold ds n fr a ∧ SameEnv w0 w ∧ Q e fr w.heap
/-- code over a frame of n slots and a heap -/
structure CwD (ds : List Deferred) (P : Program) (n : Nat) (c : Code) (Q : Exit → Fr → Heap → Prop) (fr : Fr) (h : Heap) : Prop where
  run : ∀ w0 a w, Hold ds n fr a → SameEnv w0 w → w.heap = h → c.wp P (Post ds w0 n Q) a w
abbrev Cw := CwD []
section
variable {P : Program} {n : Nat} {Q : Exit → Fr → Heap → Prop} {fr : Fr} {h : Heap}
def thenQ (N : Fr → Heap → Prop) (Q : Exit → Fr → Heap → Prop) : Exit → Fr → Heap → Prop
  | .normal, fr, h => N fr h
  | e, fr, h => Q e fr h
theorem Post.then {w0 : World} {N : Fr → Heap → Prop} {K : Act → World → Prop} (hN : ∀ fr a w, Hold ds n fr a → SameEnv w0 w → N fr w.heap → K a w) :
    ∀ e a w, Post ds w0 n (thenQ N Q) e a w → Exit.then K (Post ds w0 n Q) e a w := by
  rintro e a w ⟨fr, hF, hs, hq⟩
  cases e with
  | normal => exact hN fr a w hF hs hq
  | _ => exact ⟨fr, hF, hs, hq⟩
theorem cw_seq {x y : Code} (H : CwD ds P n x (thenQ (fun fr h => CwD ds P n y Q fr h) Q) fr h) : CwD ds P n (.seq x y) Q fr h :=
  ⟨fun w0 a w hF hs hw => wp_seq (Code.wp_mono (Post.then fun _ a' w' hF' hs' hk => hk.run w0 a' w' hF' hs' rfl) (H.run w0 a w hF hs hw))⟩
theorem cw_skip (H : Q .normal fr h) : CwD ds P n .skip Q fr h := ⟨fun _ _ _ hF hs hw => wp_skip ⟨fr, hF, hs, hw ▸ H⟩⟩
theorem cw_ret (H : Q .ret fr h) : CwD ds P n .ret Q fr h := ⟨fun _ _ _ hF hs hw => wp_ret ⟨fr, hF, hs, hw ▸ H⟩⟩
theorem cw_exit {id : Nat} (H : Q (.exit id) fr h) : CwD ds P n (.exit id) Q fr h := ⟨fun _ _ _ hF hs hw => wp_exit ⟨fr, hF, hs, hw ▸ H⟩⟩
def blockQ (id : Nat) (Q : Exit → Fr → Heap → Prop) : Exit → Fr → Heap → Prop
  | .exit id', fr, h => if id' = id then Q .normal fr h else Q (.exit id') fr h
  | e, fr, h => Q e fr h
theorem cw_block {id : Nat} {c : Code} (H : CwD ds P n c (blockQ id Q) fr h) : CwD ds P n (.block id c) Q fr h :=
  ⟨fun w0 a w hF hs hw => wp_block (Code.wp_mono (by
    rintro e a w ⟨fr, hF, hs, hq⟩
    cases e with
    | exit id' =>
      simp only [Exit.inBlock]
      simp only [blockQ] at hq
      split
      · rename_i e; rw [if_pos e] at hq; exact ⟨fr, hF, hs, hq⟩
      · rename_i e; rw [if_neg e] at hq; exact ⟨fr, hF, hs, hq⟩
    | _ => exact ⟨fr, hF, hs, hq⟩) (H.run w0 a w hF hs hw))⟩
theorem cw_cond {c : Operand} {x y : Code} {b : Bool} (hc : ev fr c = some (.bool b)) (H : CwD ds P n (if b then x else y) Q fr h) : CwD ds P n (.cond c x y) Q fr h :=
  ⟨fun w0 a w hF hs hw => wp_cond (hF.ev hc) (H.run w0 a w hF hs hw)⟩
theorem cw_true {c : Operand} {x y : Code} (hc : ev fr c = some (.bool true)) (H : CwD ds P n x Q fr h) : CwD ds P n (.cond c x y) Q fr h := cw_cond hc H
theorem cw_false {c : Operand} {x y : Code} (hc : ev fr c = some (.bool false)) (H : CwD ds P n y Q fr h) : CwD ds P n (.cond c x y) Q fr h := cw_cond hc H
theorem cw_split {c : Operand} {x y : Code} {b : Bool} (hc : ev fr c = some (.bool b)) (H1 : b = true → CwD ds P n x Q fr h) (H2 : b = false → CwD ds P n y Q fr h) : CwD ds P n (.cond c x y) Q fr h := by
  cases b with
  | true => exact cw_true hc (H1 rfl)
  | false => exact cw_false hc (H2 rfl)
theorem cw_yes {c : Operand} {x y : Code} {p : Prop} [Decidable p] (hc : ev fr c = some (.bool (decide p))) (hp : p) (H : CwD ds P n x Q fr h) : CwD ds P n (.cond c x y) Q fr h := cw_true (by rw [hc, decide_eq_true hp]) H
theorem cw_no {c : Operand} {x y : Code} {p : Prop} [Decidable p] (hc : ev fr c = some (.bool (decide p))) (hp : ¬ p) (H : CwD ds P n y Q fr h) : CwD ds P n (.cond c x y) Q fr h := cw_false (by rw [hc, decide_eq_false hp]) H
theorem cw_keep {c : Code} (fr' : Fr) (hs : Sub fr' fr) (H : CwD ds P n c Q fr' h) : CwD ds P n c Q fr h := ⟨fun w0 a w hF he hw => H.run w0 a w (hF.sub hs) he hw⟩
theorem cw_mono {c : Code} {Q' : Exit → Fr → Heap → Prop} (H : CwD ds P n c Q fr h) (hq : ∀ e fr h, Q e fr h → Q' e fr h) : CwD ds P n c Q' fr h :=
  ⟨fun w0 a w hF hs hw => Code.wp_mono (fun _ _ _ ⟨fr, h1, h2, h3⟩ => ⟨fr, h1, h2, hq _ _ _ h3⟩) (H.run w0 a w hF hs hw)⟩
theorem cw_region {id : Nat} {ops : Array Oper} (hd : dstsB n ops.toList = true) (H : evOps P ops.toList ops.toList fr h fun fr h => Q .normal fr h) : CwD ds P n (.region id ops false) Q fr h :=
  ⟨fun w0 a w hF hs hw => wp_region_list (by
    have := evOps_sound (n := n) (Q := Post ds w0 n Q) ops.toList (fun o ho => dok_of hd ho) fr h a w H hF hw (fun fr' a' w' hF' hs' hk => ⟨fr', hF', hs.trans hs', hk⟩)
    simpa using this)⟩
theorem cw_drawn {id : Nat} {ops : Array Oper} (hm : P.follows .mixedOrders = true) (m : Nat) (imp : Nat → Bool) (p : List Nat) (hB : regB ops m imp p = true) (hd : dstsB n ops.toList = true)
    (H : evH P ops.toList imp h (fun fr h => evOps P ops.toList (ops.toList.drop m) fr h fun fr h => Q .normal fr h) p fr h) : CwD ds P n (.region id ops true) Q fr h :=
  ⟨fun w0 a w hF hs hw => by
    refine wp_region_head (fun b => b < h.size) m imp p hm hB ?_
    have := evH_sound (n := n) (P := P) (all := ops.toList) (imp := imp) (h0 := h) (fun o ho => dok_of hd ho) w0 (L' := fun a' w' => wpList P ops (Post ds w0 n Q) (ops.toList.drop m) a' w')
      (fun fr1 a' w' hF' hs' hk => by
        have := evOps_sound (n := n) (Q := Post ds w0 n Q) (ops.toList.drop m) (fun o ho => dok_of hd (List.mem_of_mem_drop ho)) fr1 w'.heap a' w' hk hF' rfl (fun fr'' a'' w'' hF'' hs'' hk' => ⟨fr'', hF'', hs'.trans hs'', hk'⟩)
        simpa using this)
      p fr h a { w with drawn := w.drawn + 1 } H hF (hw ▸ ExtH.refl _) (hw ▸ ExtH.refl _) ⟨hs.os, hs.tape, hs.output⟩
    simpa using this⟩
/-- A loop: at each round's head the frame is F s, and H s holds of the heap, for some s; a round lowers μ. -/
theorem cw_loop {S : Type} (F : S → Fr) (I : S → Heap → Prop) (μ : S → Nat) (s0 : S) {c : Code} (h0 : Sub (F s0) fr) (hI : I s0 h)
    (round : ∀ s h, I s h → CwD ds P n c (thenQ (fun fr' h' => ∃ s', Sub (F s') fr' ∧ I s' h' ∧ μ s' < μ s) Q) (F s) h) : CwD ds P n (.loop c) Q fr h := by
  refine ⟨fun w0 a w hF hs hw b k cs => ?_⟩
  have key : ∀ m s a w, μ s = m → Hold ds n (F s) a → SameEnv w0 w → I s w.heap →
      ∃ e a' w', Post ds w0 n Q e a' w' ∧ Arrives P (lone (b.at a (.code c :: .inLoop c :: k)) cs w) b k cs e a' w' := by
    intro m
    induction m using Nat.strongRecOn with
    | _ m ih =>
      intro s a w hm hF hs hI
      obtain ⟨e, a₁, w₁, ⟨fr₁, hF₁, hs₁, hq⟩, harr⟩ := (round s w.heap hI).run w0 a w hF hs rfl b (.inLoop c :: k) cs
      cases e with
      | normal =>
        obtain ⟨s', hsub, hI', hlt⟩ := hq
        obtain ⟨e₂, a₂, w₂, hq₂, harr₂⟩ := ih (μ s') (hm ▸ hlt) s' a₁ w₁ rfl (hF₁.sub hsub) hs₁ hI'
        exact ⟨e₂, a₂, w₂, hq₂, .of_steps (Steps.trans harr (.one step_inLoop)) harr₂⟩
      | exit id => exact ⟨_, a₁, w₁, ⟨fr₁, hF₁, hs₁, hq⟩, .pass (x := .inLoop c) rfl (fun _ _ => .inl (by simp)) harr⟩
      | goto l => exact ⟨_, a₁, w₁, ⟨fr₁, hF₁, hs₁, hq⟩, .pass (x := .inLoop c) rfl (fun _ _ => .inl (by simp)) harr⟩
      | ret => exact ⟨_, a₁, w₁, ⟨fr₁, hF₁, hs₁, hq⟩, .pass (x := .inLoop c) rfl (fun _ _ => .inl (by simp)) harr⟩
      | panic ch => exact ⟨_, a₁, w₁, ⟨fr₁, hF₁, hs₁, hq⟩, .pass (x := .inLoop c) rfl (fun _ _ => .inl (by simp)) harr⟩
      | outgrown => exact ⟨_, a₁, w₁, ⟨fr₁, hF₁, hs₁, hq⟩, .pass (x := .inLoop c) rfl (fun _ _ => .inl (by simp)) harr⟩
  obtain ⟨e, a', w', hq, harr⟩ := key _ s0 a w rfl (hF.sub h0) hs (hw ▸ hI)
  exact ⟨e, a', w', hq, .of_steps (.one step_loop) harr⟩
/-! ### from a body to a contract -/
def resL (P : Program) : List ResultVar → Fr → Heap → (List Value → Prop) → Prop
  | [], _, _, k => k []
  | .tmp t :: r, fr, h, k => match lk fr t with
    | some v => resL P r fr h fun vs => k (v :: vs)
    | none => False
  | .cell a T :: r, fr, h, k => match lk fr a with
    | some (.pointer (some ⟨b, off, none⟩)) => loadk P T b off h fun v => resL P r fr h fun vs => k (v :: vs)
    | _ => False
def one (vs : List Value) : Value :=
  match vs with
  | [v] => v
  | vs => .tuple vs.toArray
def resF (tmps : Array Value) : ResultVar → Sem Value
  | .tmp t => pure (tmps.getD t undef)
  | .cell x t => do loadVar t (← asAddr (tmps.getD x undef))
theorem resL_run {P : Program} {n : Nat} {fr : Fr} {a : Act} {w : World} (hF : Hold ds n fr a) : ∀ (l : List ResultVar) (k : List Value → Prop), resL P l fr w.heap k →
    ∃ vs, k vs ∧ (l.mapM (resF a.tmps)).run P w = .ok vs w
  | [], k, H => ⟨[], H, by simp⟩
  | .tmp t :: r, k, H => by
    unfold resL at H
    split at H
    · rename_i v hv
      obtain ⟨vs, hk, hr⟩ := resL_run hF r _ H
      refine ⟨v :: vs, hk, ?_⟩
      have e : (resF a.tmps (.tmp t)).run P w = .ok v w := by simp only [resF, Sem.run_pure, (hF.has t v hv).2]
      simp only [List.mapM_cons, Sem.run_bind, Sem.run_pure, Result.andThen_ok, e, hr]
    · exact H.elim
  | .cell x T :: r, k, H => by
    unfold resL at H
    split at H
    · rename_i b off hx
      obtain ⟨v, H, hl⟩ := loadk_elim H
      obtain ⟨vs, hk, hr⟩ := resL_run hF r _ H
      refine ⟨v :: vs, hk, ?_⟩
      have e : (resF a.tmps (.cell x T)).run P w = .ok v w := by simp only [resF, (hF.has x _ hx).2, asAddr, Sem.run_bind, Sem.run_pure, Result.andThen_ok, hl w (ExtH.refl _)]
      simp only [List.mapM_cons, Sem.run_bind, Sem.run_pure, Result.andThen_ok, e, hr]
    · exact H.elim
theorem results_run {P : Program} {n : Nat} {fr : Fr} {a : Act} {w : World} {fn : Func} {R : Value → Prop} (hF : Hold ds n fr a) (H : resL P fn.results.toList fr w.heap fun vs => R (one vs)) :
    ∃ v, R v ∧ (results fn a.tmps).run P w = .ok v w := by
  obtain ⟨vs, hR, hr⟩ := resL_run hF fn.results.toList _ H
  refine ⟨one vs, hR, ?_⟩
  have e : (fn.results.mapM (resF a.tmps)).run P w = .ok vs.toArray w := by
    rw [Array.mapM_eq_mapM_toList, map_eq_pure_bind, Sem.run_bind, hr]
    rfl
  have e1 : results fn a.tmps = (do
      let vs ← fn.results.mapM (resF a.tmps)
      pure (if h : vs.size = 1 then vs[0] else .tuple vs)) := by
    unfold results
    congr 2
  rw [e1, Sem.run_bind, e]
  simp only [Result.andThen_ok, Sem.run_pure]
  congr 1
  match vs with
  | [] => rfl
  | [v] => rfl
  | u :: v :: r => simp [one]
def argsFr : List Value → Nat → Fr
  | [], _ => []
  | v :: r, i => (i, v) :: argsFr r (i + 1)
theorem lk_argsFr : ∀ (l : List Value) (i t : Nat) (v : Value), lk (argsFr l i) t = some v → i ≤ t ∧ l[t - i]? = some v
  | [], _, _, _, h => by simp [argsFr, lk] at h
  | u :: r, i, t, v, h => by
    simp only [argsFr, lk] at h
    split at h
    · rename_i e; subst e; cases h; simp
    · rename_i e
      obtain ⟨h1, h2⟩ := lk_argsFr r (i + 1) t v h
      refine ⟨by omega, ?_⟩
      rw [show t - i = (t - (i + 1)) + 1 by omega]
      simpa using h2
def fnQ (P : Program) (fn : Func) (R : Value → Heap → Prop) : Exit → Fr → Heap → Prop
  | .normal, fr, h => resL P fn.results.toList fr h fun vs => R (one vs) h
  | .ret, fr, h => resL P fn.results.toList fr h fun vs => R (one vs) h
  | _, _, _ => False
/-- a function that makes nothing and changes nothing -/
def FxP (P : Program) (f : FuncId) (args : Array Value) (v : Value) : Prop := ∀ h, Fx P f args h fun u h' => u = v ∧ h' = h
theorem FxP.q {P : Program} {f : FuncId} {args : Array Value} {v : Value} (H : FxP P f args v) (h : Heap) : FxQ P f args h v :=
  fun h1 _ => (H h1).mono fun _ _ ⟨e, e'⟩ => ⟨e, e' ▸ ExtH.refl _⟩
/-- FROM A BODY TO A CONTRACT. -/
theorem fn_of {P : Program} {f : FuncId} {fn : Func} {c : Code} {args : Array Value} {h : Heap} {R : Value → Heap → Prop} (n : Nat) (hf : P.funcs[f]? = some fn) (hb : fn.body = some c) (hp : plain P f = true)
    (hn : fn.ntmps = n) (ha : args.size ≤ n) (H : Cw P n c (fnQ P fn R) (argsFr args.toList 0) h) : Fx P f args h R := by
  refine .inl ⟨hp, fun w hw => calls_of_wp hf hb ?_⟩
  have hF : Hold [] n (argsFr args.toList 0) { tmps := args ++ Array.replicate (fn.ntmps - args.size) undef, defers := [] } := by
    refine ⟨by simp [hn]; omega, rfl, fun t v hl => ?_⟩
    obtain ⟨_, h2⟩ := lk_argsFr _ _ _ _ hl
    simp only [Nat.sub_zero, Array.getElem?_toList] at h2
    obtain ⟨h3, h4⟩ := Array.getElem?_eq_some_iff.1 h2
    refine ⟨by omega, ?_⟩
    rw [Array.getD_eq_getD_getElem?, Array.getElem?_append_left h3, h2]
    rfl
  refine Code.wp_mono ?_ (H.run w _ w hF (SameEnv.refl w) hw)
  rintro e a w' ⟨fr, hF', hs, hq⟩
  cases e with
  | normal =>
    obtain ⟨v, hR, hr⟩ := results_run (R := fun v => R v w'.heap) hF' hq
    exact ⟨hF'.defers, v, hr, v, rfl, hs, hR⟩
  | ret =>
    obtain ⟨v, hR, hr⟩ := results_run (R := fun v => R v w'.heap) hF' hq
    exact ⟨hF'.defers, v, hr, v, rfl, hs, hR⟩
  | _ => exact hq.elim
end
end Go.Proofs.YtdielfpgekenkaaGreatDoor.Vm
