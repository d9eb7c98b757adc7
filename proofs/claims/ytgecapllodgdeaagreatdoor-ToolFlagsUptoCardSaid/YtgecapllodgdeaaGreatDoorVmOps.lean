/-
  One operation at a time over a frame of the slots that matter and a heap: what is to be shown of each, and that it is enough.
-/
import Derived.Test.YtgecapllodgdeaaGreatDoorVmOrd
import Derived.WalkLawsBesides
namespace Go.Proofs.YtgecapllodgdeaaGreatDoor.Vm
open Go
abbrev Fr := List (Nat × Value)
abbrev Heap := Array Obj
def lk : Fr → Nat → Option Value
  | [], _ => none
  | (s, v) :: r, t => if t = s then some v else lk r t
def ev (fr : Fr) : Operand → Option Value
  | .tmp t => lk fr t
  | .const v => some v
  | .global g => some (.pointer (some ⟨g, 0, none⟩))
  | .func f => some (.func (.func f) #[] #[])
def evl (fr : Fr) : List (Nat × Operand) → Option (List (Nat × Value))
  | [] => some []
  | (i, x) :: r => match ev fr x, evl fr r with
    | some v, some vs => some ((i, v) :: vs)
    | _, _ => none
def evs (fr : Fr) : List Operand → Option (List Value)
  | [] => some []
  | x :: r => match ev fr x, evs fr r with
    | some v, some vs => some (v :: vs)
    | _, _ => none
def evk (fr : Fr) (x : Operand) (k : Value → Prop) : Prop :=
  match ev fr x with
  | some v => k v
  | none => False
theorem evk_elim {fr : Fr} {x : Operand} {k : Value → Prop} (h : evk fr x k) : ∃ v, ev fr x = some v ∧ k v := by
  unfold evk at h
  split at h
  · exact ⟨_, by assumption, h⟩
  · exact h.elim
def put (fr : Fr) (d : Option Nat) (v : Value) : Fr :=
  match d with
  | some d => (d, v) :: fr
  | none => fr
/-- the slots that fr names hold what it says; nothing is deferred -/
structure Hold (n : Nat) (fr : Fr) (a : Act) : Prop where
  size : a.tmps.size = n
  defers : a.defers = []
  has : ∀ t v, lk fr t = some v → t < n ∧ a.tmps.getD t undef = v
theorem Hold.ev {n : Nat} {fr : Fr} {a : Act} (hF : Hold n fr a) {x : Operand} {v : Value} (h : ev fr x = some v) : a.eval x = v := by
  cases x with
  | tmp t => exact (hF.has t v h).2
  | const u => simpa [Vm.ev, Act.eval] using h
  | global g => simpa [Vm.ev, Act.eval] using h
  | func f => simpa [Vm.ev, Act.eval] using h
def dok (n : Nat) : Option Nat → Prop
  | some d => d < n
  | none => True
theorem Hold.put {n : Nat} {fr : Fr} {a : Act} (hF : Hold n fr a) (d : Option Nat) (v : Value) (hd : dok n d) : Hold n (put fr d v) (a.put d v) := by
  cases d with
  | none => exact hF
  | some d =>
    refine ⟨by simp [Act.put, hF.size], hF.defers, fun t u h => ?_⟩
    have hd' : d < n := hd
    simp only [Vm.put, lk] at h
    by_cases e : t = d
    · subst e
      simp only [if_true, Option.some.injEq] at h
      subst h
      exact ⟨hd', by simp [Act.put, hF.size, hd']⟩
    · rw [if_neg e] at h
      obtain ⟨h1, h2⟩ := hF.has t u h
      refine ⟨h1, ?_⟩
      simp only [Act.put, Array.getD_eq_getD_getElem?]
      rw [Array.getElem?_setIfInBounds_ne (fun e' => e e'.symm), ← Array.getD_eq_getD_getElem?]
      exact h2
def Sub : Fr → Fr → Prop
  | [], _ => True
  | (t, v) :: r, fr => lk fr t = some v ∧ Sub r fr
theorem Sub.lk {r fr : Fr} (h : Sub r fr) {t : Nat} {v : Value} (hl : lk r t = some v) : lk fr t = some v := by
  induction r with
  | nil => simp [Vm.lk] at hl
  | cons x r ih =>
    obtain ⟨s, u⟩ := x
    simp only [Vm.lk] at hl
    split at hl
    · rename_i e; subst e; cases hl; exact h.1
    · exact ih h.2 hl
theorem Hold.sub {n : Nat} {r fr : Fr} {a : Act} (hF : Hold n fr a) (h : Sub r fr) : Hold n r a := ⟨hF.size, hF.defers, fun t v hl => hF.has t v (h.lk hl)⟩

/-! ### the heap -/
def rd (h : Heap) (a : Addr) : Option Value :=
  match h[a.block]? with
  | some (.cells c _ _) => if a.spot.isSome then none else c[a.off]?
  | _ => none
theorem cell_eq_rd (w : World) (a : Addr) : w.cell? a = rd w.heap a := rfl
/-- a block of cells of our own -/
def Blk (h : Heap) (b : Nat) (l : List Value) (t : TypeId) : Prop := h[b]? = some (.cells l.toArray t (0, 0))
structure ExtH (h h' : Heap) : Prop where
  size : h.size ≤ h'.size
  block : ∀ b, b < h.size → h'[b]? = h[b]?
theorem ExtH.refl (h : Heap) : ExtH h h := ⟨Nat.le_refl _, fun _ _ => rfl⟩
theorem ExtH.trans {a b c : Heap} (h : ExtH a b) (k : ExtH b c) : ExtH a c := ⟨Nat.le_trans h.size k.size, fun i hi => (k.block i (Nat.lt_of_lt_of_le hi h.size)).trans (h.block i hi)⟩
theorem rd_lt {h : Heap} {a : Addr} {v : Value} (hr : rd h a = some v) : a.block < h.size := by
  unfold rd at hr
  split at hr
  · rename_i hb; exact (Array.getElem?_eq_some_iff.1 hb).1
  · cases hr
theorem ExtH.rd {h h' : Heap} (he : ExtH h h') {a : Addr} {v : Value} (hr : rd h a = some v) : rd h' a = some v := by
  have := he.block a.block (rd_lt hr)
  unfold Vm.rd at *
  rw [this]
  exact hr
theorem Blk.lt {h : Heap} {b : Nat} {l : List Value} {t : TypeId} (hb : Blk h b l t) : b < h.size := (Array.getElem?_eq_some_iff.1 hb).1
theorem ExtH.blk {h h' : Heap} (he : ExtH h h') {b : Nat} {l : List Value} {t : TypeId} (hb : Blk h b l t) : Blk h' b l t := (he.block b hb.lt).trans hb
theorem Blk.rd {h : Heap} {b : Nat} {l : List Value} {t : TypeId} (hb : Blk h b l t) {o : Nat} {v : Value} (hv : l[o]? = some v) : rd h ⟨b, o, none⟩ = some v := by
  unfold Blk at hb
  simp [Vm.rd, hb, hv]
def rdN (h : Heap) (b o : Nat) (vs : List Value) : Prop := ∀ j v, vs[j]? = some v → rd h ⟨b, o + j, none⟩ = some v
theorem Blk.rdN {h : Heap} {b : Nat} {l : List Value} {t : TypeId} (hb : Blk h b l t) (o : Nat) (vs : List Value) (hv : (l.drop o).take vs.length = vs) : rdN h b o vs := by
  intro j v hj
  refine hb.rd ?_
  have hlt := (List.getElem?_eq_some_iff.1 hj).1
  have h1 : (l.drop o)[j]? = some v := by
    rw [← hv, List.getElem?_take] at hj
    rw [if_pos hlt] at hj
    exact hj
  rwa [List.getElem?_drop] at h1
theorem Blk.all {h : Heap} {b : Nat} {l : List Value} {t : TypeId} (hb : Blk h b l t) : Vm.rdN h b 0 l := hb.rdN 0 l (by simp)
theorem ExtH.rdN {h h' : Heap} (he : ExtH h h') {b o : Nat} {vs : List Value} (hr : rdN h b o vs) : Vm.rdN h' b o vs := fun j v hj => he.rd (hr j v hj)
/-- h' is h with one new block -/
structure Newed (h h' : Heap) (o : Obj) : Prop where
  size : h'.size = h.size + 1
  new : h'[h.size]? = some o
  block : ∀ b, b < h.size → h'[b]? = h[b]?
theorem Newed.ext {h h' : Heap} {o : Obj} (hn : Newed h h' o) : ExtH h h' := ⟨by rw [hn.size]; omega, hn.block⟩
theorem Newed.push (h : Heap) (o : Obj) : Newed h (h.push o) o := ⟨by simp, by simp, fun b hb => by rw [Array.getElem?_push, if_neg (by omega)]⟩
theorem Newed.blk {h h' : Heap} {c : Array Value} {t : TypeId} (hn : Newed h h' (.cells c t)) : Blk h' h.size c.toList t := hn.new
/-- h' is h but for block b, which now holds l -/
structure Wrote (h h' : Heap) (b : Nat) (l : List Value) (t : TypeId) : Prop where
  size : h'.size = h.size
  new : Blk h' b l t
  block : ∀ c, c ≠ b → h'[c]? = h[c]?
theorem Wrote.blk {h h' : Heap} {b : Nat} {l : List Value} {t : TypeId} (hw : Wrote h h' b l t) {c : Nat} {m : List Value} {u : TypeId} (hc : Blk h c m u) (hne : c ≠ b) : Blk h' c m u := (hw.block c hne).trans hc
theorem Wrote.cast {h h' : Heap} {b : Nat} {l l' : List Value} {t : TypeId} (hw : Wrote h h' b l t) (e : l = l') : Wrote h h' b l' t := e ▸ hw
theorem Wrote.rd {h h' : Heap} {b : Nat} {l : List Value} {t : TypeId} (hw : Wrote h h' b l t) {a : Addr} {v : Value} (hr : rd h a = some v) (hne : a.block ≠ b) : Vm.rd h' a = some v := by
  unfold Vm.rd at *
  rw [hw.block _ hne]
  exact hr
theorem Wrote.rdN {h h' : Heap} {b : Nat} {l : List Value} {t : TypeId} (hw : Wrote h h' b l t) {c o : Nat} {vs : List Value} (hr : rdN h c o vs) (hne : c ≠ b) : Vm.rdN h' c o vs := fun j v hj => hw.rd (hr j v hj) hne
def splice (l : List Value) (o : Nat) (vs : List Value) : List Value := l.take o ++ vs ++ l.drop (o + vs.length)

theorem i64_nat (n : Nat) (h : n < 9223372036854775808) : IntKind.i64.wrap (n : Int) = (n : Int) := by rw [IntKind.wrap_i64]; omega
theorem i64_in (n : Int) (h : -9223372036854775808 ≤ n) (h' : n < 9223372036854775808) : IntKind.i64.wrap n = n := by rw [IntKind.wrap_i64]; omega
theorem i64_eq (i : Int) (n : Nat) (e : i = n) (h : n < 9223372036854775808) : IntKind.i64.wrap i = (n : Int) := by rw [e]; exact i64_nat n h
/-- a slot that holds an int -/
theorem slot_i64 (i : Int) (n : Nat) (e : i = n) (h : n < 9223372036854775808) : some (Value.int .i64 (IntKind.i64.wrap i)) = some (.int .i64 (n : Int)) := by rw [i64_eq i n e h]
/-! ### operations that only read -/
def addk (a : Addr) (n : Nat) (k : Addr → Prop) : Prop :=
  match a with
  | ⟨b, off, none⟩ => k ⟨b, off + n, none⟩
  | _ => False
theorem addk_elim {a : Addr} {n : Nat} {k : Addr → Prop} (h : addk a n k) : k (a.add n) := by
  unfold addk at h
  split at h
  · rename_i b off
    have : (⟨b, off, none⟩ : Addr).add n = ⟨b, off + n, none⟩ := by unfold Addr.add; split <;> simp_all
    rw [this]; exact h
  · exact h.elim
/-- element i of a row of elements of so many cells -/
def addi (a : Addr) (i size : Nat) (k : Addr → Prop) : Prop := if size = 1 then addk a i k else addk a (i * size) k
theorem addi_elim {a : Addr} {i size : Nat} {k : Addr → Prop} (h : addi a i size k) : k (a.add (i * size)) := by
  unfold addi at h
  split at h
  · rename_i e; rw [e, Nat.mul_one]; exact addk_elim h
  · exact addk_elim h
def partk (P : Program) (T : TypeId) (cs : Array Value) (off : Nat) (k : Value → Prop) : Prop :=
  match P.underlying T, P.info? T with
  | some (.struct _), some inf => k (.agg (cs.extract off (off + inf.size)))
  | some (.array _ _), some inf => k (.agg (cs.extract off (off + inf.size)))
  | some _, some _ => match cs[off]? with
    | some v => k v
    | none => False
  | _, _ => False
theorem partk_elim {P : Program} {T : TypeId} {cs : Array Value} {off : Nat} {k : Value → Prop} (h : partk P T cs off k) : ∃ v, (∀ w, (part T cs off).run P w = .ok v w) ∧ k v := by
  unfold partk at h
  split at h
  · rename_i hu hi; exact ⟨_, fun w => by simp [part, isAgg, Sem.run_bind, run_underlying hu, sizeOf, typeInfo, hi], h⟩
  · rename_i hu hi; exact ⟨_, fun w => by simp [part, isAgg, Sem.run_bind, run_underlying hu, sizeOf, typeInfo, hi], h⟩
  · rename_i d inf hns hna hu hi
    split at h
    · rename_i v hv
      refine ⟨v, fun w => ?_, h⟩
      have : (isAgg T).run P w = .ok false w := by
        unfold isAgg
        rw [Sem.run_bind, run_underlying hu w]
        cases d <;> simp_all
      simp [part, Sem.run_bind, this, hv]
    · exact h.elim
  · exact h.elim
theorem run_loadN {P : Program} {t : TypeId} {inf : TypeInfo} (hagg : ∀ w, (isAgg t).run P w = .ok true w) (hi : P.info? t = some inf) {vs : List Value} (hl : vs.length = inf.size) {w : World} {b off : Nat} (hr : rdN w.heap b off vs) :
    (loadVar t ⟨b, off, none⟩).run P w = .ok (.agg vs.toArray) w := by
  have h1 : (loadCells ⟨b, off, none⟩ vs.length).run P w = .ok vs.toArray w := run_loadCells_list (P := P) w ⟨b, off, none⟩ vs (fun j v hv => by
    have hadd : (⟨b, off, none⟩ : Addr).add j = ⟨b, off + j, none⟩ := by unfold Addr.add; split <;> simp_all
    rw [hadd, cell_eq_rd]
    exact hr j v hv)
  rw [hl] at h1
  simp [loadVar, Sem.run_bind, hagg, sizeOf, typeInfo, hi, h1]
def loadk (P : Program) (t : TypeId) (b off : Nat) (h : Heap) (k : Value → Prop) : Prop :=
  match P.underlying t, P.info? t with
  | some (.struct _), some inf => ∃ vs, vs.length = inf.size ∧ rdN h b off vs ∧ k (.agg vs.toArray)
  | some (.array _ _), some inf => ∃ vs, vs.length = inf.size ∧ rdN h b off vs ∧ k (.agg vs.toArray)
  | some _, some _ => ∃ v, rd h ⟨b, off, none⟩ = some v ∧ k v
  | _, _ => False
theorem loadk_elim {P : Program} {t : TypeId} {b off : Nat} {h : Heap} {k : Value → Prop} (H : loadk P t b off h k) :
    ∃ v, k v ∧ ∀ w, ExtH h w.heap → (loadVar t ⟨b, off, none⟩).run P w = .ok v w := by
  unfold loadk at H
  split at H
  · rename_i ht hi
    obtain ⟨vs, hl, hr, H⟩ := H
    exact ⟨_, H, fun w hw => run_loadN (P := P) (t := t) (fun w => by simp [isAgg, run_underlying ht]) hi hl (hw.rdN hr)⟩
  · rename_i ht hi
    obtain ⟨vs, hl, hr, H⟩ := H
    exact ⟨_, H, fun w hw => run_loadN (P := P) (t := t) (fun w => by simp [isAgg, run_underlying ht]) hi hl (hw.rdN hr)⟩
  · rename_i d inf hns hna hu hi
    obtain ⟨u, hr, H⟩ := H
    refine ⟨u, H, fun w hw => ?_⟩
    have hagg : (isAgg t).run P w = .ok false w := by
      unfold isAgg
      rw [Sem.run_bind, run_underlying hu w]
      cases d <;> simp_all
    have hc : w.cell? _ = some u := hw.rd hr
    simp [loadVar, hagg, run_load, hc]
  · exact H.elim
/-- the operands of an operation of two integers -/
def intk (op : BinOp) (a : IntKind) (x y : Int) (k : Value → Prop) : Prop :=
  match op with
  | .add => k (.int a (a.wrap (x + y)))
  | .sub => k (.int a (a.wrap (x - y)))
  | .mul => k (.int a (a.wrap (x * y)))
  | .quo => y ≠ 0 ∧ k (.int a (a.wrap (x.tdiv y)))
  | .rem => y ≠ 0 ∧ k (.int a (x.tmod y))
  | .and => k (.int a (bits .and a x y))
  | .or => k (.int a (bits .or a x y))
  | .xor => k (.int a (bits .xor a x y))
  | .andNot => k (.int a (bits .andNot a x y))
  | .eql => k (.bool (x == y))
  | .neq => k (.bool (x != y))
  | .lss => k (.bool (decide (x < y)))
  | .leq => k (.bool (decide (x ≤ y)))
  | .gtr => k (.bool (decide (x > y)))
  | .geq => k (.bool (decide (x ≥ y)))
  | _ => False
def binq (P : Program) (op : BinOp) (t : TypeId) (xo yo : Operand) (x y : Value) (k : Value → Prop) : Prop :=
  match x, y with
  | .int a x, .int b y => match op with
    | .shl => 0 ≤ y ∧ k (.int a (a.wrap (x * 2 ^ min y.toNat a.bits)))
    | .shr => 0 ≤ y ∧ k (.int a (x / 2 ^ min y.toNat a.bits))
    | op => if a = b then intk op a x y k else False
  | .string x, .string y => match op with
    | .add => (x.size : Int) + y.size ≤ 9223372036854775807 ∧ k (.string (x ++ y))
    | .eql => k (.bool (x.toList == y.toList))
    | .neq => k (.bool !(x.toList == y.toList))
    | .lss => k (.bool (Op.bytesLess x.toList y.toList))
    | op => ∃ v, (∀ w, (do eqGuard op t xo yo (.string x) (.string y); binOp op t (.string x) (.string y) : Sem Value).run P w = .ok v w) ∧ k v
  | x, y => ∃ v, (∀ w, (do eqGuard op t xo yo x y; binOp op t x y : Sem Value).run P w = .ok v w) ∧ k v
theorem binq_elim {P : Program} {op : BinOp} {t : TypeId} {xo yo : Operand} {x y : Value} {k : Value → Prop} (h : binq P op t xo yo x y k) :
    ∃ v, (∀ w, (do eqGuard op t xo yo x y; binOp op t x y : Sem Value).run P w = .ok v w) ∧ k v := by
  unfold binq at h
  split at h
  · rename_i a x b y
    have hg : ∀ op w, (eqGuard op t xo yo (.int a x) (.int b y)).run P w = .ok () w := fun op w => by
      unfold eqGuard
      cases op <;> simp
    split at h
    · obtain ⟨h0, h⟩ := h
      exact ⟨_, fun w => by rw [Sem.run_bind, hg]; simp [binOp, shift_shl_any _ _ _ _ h0], h⟩
    · obtain ⟨h0, h⟩ := h
      exact ⟨_, fun w => by rw [Sem.run_bind, hg]; simp [binOp, shift_shr_any _ _ _ _ h0], h⟩
    · rename_i op hn1 hn2
      split at h
      · rename_i e; subst e
        unfold intk at h
        split at h
        case h_4 => obtain ⟨h0, h⟩ := h; exact ⟨_, fun w => by rw [Sem.run_bind, hg]; simp [binOp, Op.intDiv, h0], h⟩
        case h_5 => obtain ⟨h0, h⟩ := h; exact ⟨_, fun w => by rw [Sem.run_bind, hg]; simp [binOp, Op.intDiv, h0], h⟩
        case h_16 => exact h.elim
        all_goals exact ⟨_, fun w => by rw [Sem.run_bind, hg]; simp [binOp, Op.intArith, Op.intCmp, intBits_and, intBits_or, intBits_xor, intBits_andNot], h⟩
      · exact h.elim
  · rename_i x y
    have hg : ∀ op w, (eqGuard op t xo yo (.string x) (.string y)).run P w = .ok () w := fun op w => by
      unfold eqGuard
      cases op <;> simp
    split at h
    case h_5 => exact h
    case h_1 => obtain ⟨h0, h⟩ := h; exact ⟨_, fun w => by rw [Sem.run_bind, hg]; simp [binOp, Op.stringOp]; exact h0, h⟩
    all_goals exact ⟨_, fun w => by rw [Sem.run_bind, hg]; simp [binOp, Op.stringOp], h⟩
  · exact h
def bnd (fr : Fr) (x : Option Operand) (d : Nat) (k : Int → Prop) : Prop :=
  match x with
  | none => k d
  | some x => evk fr x fun v => match v with
    | .int _ n => k n
    | _ => False
def lenq (P : Program) (c : Call) (fr : Fr) (k : Value → Prop) : Prop :=
  match c.callee with
  | .builtin .len => match c.args[0]?, c.argTypes[0]? with
    | some x, some T => evk fr x fun v => match P.underlying T, v with
      | some (.slice _), .slice _ len _ => k (.int .i64 len)
      | some .string, .string s => k (.int .i64 s.size)
      | _, _ => False
    | _, _ => False
  | _ => False
/-- how an operation that only reads comes out, over a frame and a heap -/
def opq (P : Program) (o : Oper) (fr : Fr) (h : Heap) (k : Value → Prop) : Prop :=
  match o.op with
  | .move x => evk fr x k
  | .assign x => evk fr x k
  | .pick c a b => evk fr c fun c => match c with
    | .bool true => evk fr a k
    | .bool false => evk fr b k
    | _ => False
  | .nilCheck x => evk fr x fun v => match v with
    | .pointer (some a) => k (.pointer (some a))
    | .func (.func f) x y => k (.func (.func f) x y)
    | _ => False
  | .binOp op t x y _ => evk fr x fun a => evk fr y fun b => binq P op t x y a b k
  | .unOp op _ x => evk fr x fun v => match op, v with
    | .neg, .int kd n => k (.int kd (kd.wrap (0 - n)))
    | .xor, .int kd n => k (.int kd (bits .xor kd (if kd.signed then -1 else kd.max) n))
    | .not, .bool b => k (.bool !b)
    | _, _ => False
  | .convert s t x => evk fr x fun v => match P.underlying s, P.underlying t, v with
    | some _, some (.int kd), .int _ n => k (.int kd (kd.wrap n))
    | some _, some .string, .string b => k (.string b)
    | _, _, _ => False
  | .fieldAddr s x i => evk fr x fun v => match P.underlying s, v with
    | some (.struct fs), .pointer (some a) => match fs[i]? with
      | some f => match P.info? f.type with
        | some inf => if inf.size = 0 then False else addk a f.offset fun a' => k (.pointer (some a'))
        | none => False
      | none => False
    | _, _ => False
  | .field t x i => evk fr x fun v => match P.underlying t, v with
    | some (.struct fs), .agg cs => match fs[i]? with
      | some f => partk P f.type cs f.offset k
      | none => False
    | _, _ => False
  | .indexAddr t x i => evk fr x fun v => evk fr i fun iv => match iv with
    | .int _ n => match P.underlying t, v with
      | some (.array len e), .pointer (some a) => match P.info? e with
        | some inf => (0 ≤ n ∧ n < len) ∧ addi a n.toNat inf.size fun a' => k (.pointer (some a'))
        | none => False
      | some (.slice e), .slice (some a) len _ => match P.info? e with
        | some inf => (0 ≤ n ∧ n < len) ∧ addi a n.toNat inf.size fun a' => k (.pointer (some a'))
        | none => False
      | _, _ => False
    | _ => False
  | .index t x i => evk fr x fun v => evk fr i fun iv => match iv with
    | .int _ n => match P.underlying t, v with
      | some (.array len e), .agg cs => match P.info? e with
        | some inf => (0 ≤ n ∧ n < len) ∧ partk P e cs (n.toNat * inf.size) k
        | none => False
      | some .string, .string s => ∃ b, (0 ≤ n ∧ s[n.toNat]? = some b) ∧ k (.int .u8 b.toNat)
      | _, _ => False
    | _ => False
  | .extract x i => evk fr x fun v => match v with
    | .tuple vs => match vs[i]? with
      | some v => k v
      | none => False
    | _ => False
  | .load t x => evk fr x fun v => match v with
    | .pointer (some ⟨b, off, none⟩) => loadk P t b off h k
    | _ => False
  | .slice t x lo hi none => evk fr x fun v => match P.underlying t, v with
    | some .string, .string s => bnd fr lo 0 fun l => bnd fr hi s.size fun h => (0 ≤ l ∧ l ≤ h ∧ h ≤ s.size) ∧ k (.string (s.extract l.toNat h.toNat))
    | some (.slice e), .slice a len cap => match P.info? e with
      | some inf => bnd fr lo 0 fun l => bnd fr hi len fun h => (0 ≤ l ∧ l ≤ h ∧ h ≤ cap) ∧ ∃ A, (if cap = l.toNat then a else a.map (·.add (l.toNat * inf.size))) = A ∧ k (.slice A (h.toNat - l.toNat) (cap - l.toNat))
      | none => False
    | some (.array n e), .pointer (some a) => match P.info? e with
      | some inf => bnd fr lo 0 fun l => bnd fr hi n fun h => (0 ≤ l ∧ l ≤ h ∧ h ≤ n) ∧ ∃ A, (if n = l.toNat then a else a.add (l.toNat * inf.size)) = A ∧ k (.slice (some A) (h.toNat - l.toNat) (n - l.toNat))
      | none => False
    | _, _ => False
  | .sliceToArrayPointer T x => evk fr x fun v => match P.underlying T, v with
    | some (.array n _), .slice a len _ => n ≤ len ∧ k (.pointer a)
    | _, _ => False
  | .call c => lenq P c fr k
  | .build t parts => ∃ vs, evl fr parts.toList = some vs ∧ ∃ c, (∀ w, (Instr.build t vs.toArray).run P w = .ok (.agg c) w) ∧ k (.agg c)
  | .lookup t x ix ok => evk fr x fun v => evk fr ix fun i => ∃ u, (∀ w, ExtH h w.heap → (Instr.lookup t v i ok).run P w = .ok u w) ∧ k u
  | .makeInterface t x => evk fr x fun v => ∃ u, (∀ w, (Instr.makeInterface t v).run P w = .ok u w) ∧ k u
  | .typeAssert x t a ok => evk fr x fun v => ∃ u, (∀ w, (Instr.typeAssert v t a ok).run P w = .ok u w) ∧ k u
  | _ => False

theorem run_sliceBounds {P : Program} (sl : Bool) (len cap : Nat) (lo hi : Option Value) (l h : Int) (w : World) (hlo : lo = none ∧ l = 0 ∨ ∃ kd, lo = some (.int kd l)) (hhi : hi = none ∧ h = len ∨ ∃ kd, hi = some (.int kd h))
    (h0 : 0 ≤ l) (h1 : l ≤ h) (h2 : h ≤ cap) : (Instr.sliceBounds sl len cap lo hi none).run P w = .ok (l.toNat, h.toNat, cap) w := by
  have e : ((h.toNat : Nat) : Int) = h := by omega
  rcases hhi with ⟨rfl, rfl⟩ | ⟨kd, rfl⟩ <;> rcases hlo with ⟨rfl, rfl⟩ | ⟨kd', rfl⟩
  · simp [Instr.sliceBounds]
  · have hb := run_sliceBound (P := P) w kd' l len (if false then .slice3C else .sliceB) h0 h1
    simp only [Bool.false_eq_true, if_false] at hb
    simp [Instr.sliceBounds, hb]
  · have hb := run_sliceBound (P := P) w kd h cap (if sl then .sliceAcap else .sliceAlen) (by omega) h2
    simp [Instr.sliceBounds, hb]
  · have hb := run_sliceBound (P := P) w kd h cap (if sl then .sliceAcap else .sliceAlen) (by omega) h2
    have hb' := run_sliceBound (P := P) w kd' l h.toNat .sliceB h0 (by omega)
    simp [Instr.sliceBounds, hb, hb']
end Go.Proofs.YtgecapllodgdeaaGreatDoor.Vm
