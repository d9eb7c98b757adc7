/-
  The evaluator's values and heaps, and those of the model.
  The evaluator's operations that only read are the model's.
-/
import Derived.Test.YtdielfpgekenkaaGreatDoorJ7
namespace Go.Proofs.YtdielfpgekenkaaGreatDoor.Sx
open Go Vm
set_option linter.unusedSimpArgs false
/-- where a block's number stands in the heap, and how many elements it has room for -/
abbrev Env := Nat → Option (Nat × Nat)
def Pre (σ τ : Env) : Prop := ∀ i q, σ i = some q → τ i = some q
theorem Pre.refl (σ : Env) : Pre σ σ := fun _ _ h => h
theorem Pre.trans {a b c : Env} (h : Pre a b) (k : Pre b c) : Pre a c := fun i q e => k i q (h i q e)
mutual
def den (σ : Env) : SV → Option Value
  | .b x => some (.bool x)
  | .i k n => some (.int k n)
  | .s l => if l.all (Nat.blt · 256) then some (.string (bytesOf l)) else none
  | .p a o => (σ a).map fun q => .pointer (some ⟨q.1, o, none⟩)
  | .pn => some (.pointer none)
  | .sl a o n c => if n ≤ c ∧ c ≤ maxLen then (σ a).map fun q => .slice (some ⟨q.1, o, none⟩) n c else none
  | .sg a o e n => (σ a).bind fun q => if e + n ≤ q.2 ∧ q.2 ≤ maxLen then some (.slice (some ⟨q.1, o, none⟩) n (q.2 - e)) else none
  | .se a o d e x => (σ a).bind fun q => if e + x ≤ q.2 ∧ q.2 ≤ maxLen then some (.slice (some ⟨q.1, if q.2 - e = x then o else o + d, none⟩) 0 (q.2 - e - x)) else none
  | .sn => some (.slice none 0 0)
  | .m a => (σ a).map fun q => .map (some q.1)
  | .mn => some (.map none)
  | .f g a c => (denL σ a).bind fun a => (denL σ c).map fun c => .func (.func g) a.toArray c.toArray
  | .nf => some .nilFunc
  | .ifc t v => (den σ v).map (.iface t)
  | .nifc => some .nilIface
  | .agg l => (denL σ l).map fun l => .agg l.toArray
  | .tup l => (denL σ l).map fun l => .tuple l.toArray
def denL (σ : Env) : List SV → Option (List Value)
  | [] => some []
  | v :: r => (den σ v).bind fun v => (denL σ r).map (v :: ·)
end
theorem pre_get {σ τ : Env} (h : Pre σ τ) {a : Nat} {q : Nat × Nat} (e : σ a = some q) : τ a = some q := h a q e
mutual
theorem den_mono {σ τ : Env} (h : Pre σ τ) : ∀ (s : SV) (v : Value), den σ s = some v → den τ s = some v
  | .b _, _, e => e
  | .i _ _, _, e => e
  | .s _, _, e => e
  | .p a o, v, e => by
    simp only [den, Option.map_eq_some_iff] at e ⊢
    obtain ⟨q, h1, h2⟩ := e
    exact ⟨q, pre_get h h1, h2⟩
  | .pn, _, e => e
  | .sl a o n c, v, e => by
    simp only [den] at e ⊢
    split at e
    · rename_i hc
      rw [if_pos hc]
      simp only [Option.map_eq_some_iff] at e ⊢
      obtain ⟨q, h1, h2⟩ := e
      exact ⟨q, pre_get h h1, h2⟩
    · cases e
  | .sg a o x n, v, e => by
    simp only [den, Option.bind_eq_some_iff] at e ⊢
    obtain ⟨q, h1, h2⟩ := e
    exact ⟨q, pre_get h h1, h2⟩
  | .se a o d x y, v, e => by
    simp only [den, Option.bind_eq_some_iff] at e ⊢
    obtain ⟨q, h1, h2⟩ := e
    exact ⟨q, pre_get h h1, h2⟩
  | .sn, _, e => e
  | .m a, v, e => by
    simp only [den, Option.map_eq_some_iff] at e ⊢
    obtain ⟨q, h1, h2⟩ := e
    exact ⟨q, pre_get h h1, h2⟩
  | .mn, _, e => e
  | .f g a c, v, e => by
    simp only [den, Option.bind_eq_some_iff, Option.map_eq_some_iff] at e ⊢
    obtain ⟨x, h1, y, h2, h3⟩ := e
    exact ⟨x, denL_mono h a x h1, y, denL_mono h c y h2, h3⟩
  | .nf, _, e => e
  | .ifc t u, v, e => by
    simp only [den, Option.map_eq_some_iff] at e ⊢
    obtain ⟨x, h1, h2⟩ := e
    exact ⟨x, den_mono h u x h1, h2⟩
  | .nifc, _, e => e
  | .agg l, v, e => by
    simp only [den, Option.map_eq_some_iff] at e ⊢
    obtain ⟨x, h1, h2⟩ := e
    exact ⟨x, denL_mono h l x h1, h2⟩
  | .tup l, v, e => by
    simp only [den, Option.map_eq_some_iff] at e ⊢
    obtain ⟨x, h1, h2⟩ := e
    exact ⟨x, denL_mono h l x h1, h2⟩
theorem denL_mono {σ τ : Env} (h : Pre σ τ) : ∀ (l : List SV) (vs : List Value), denL σ l = some vs → denL τ l = some vs
  | [], _, e => e
  | s :: r, vs, e => by
    simp only [denL, Option.bind_eq_some_iff, Option.map_eq_some_iff] at e ⊢
    obtain ⟨x, h1, y, h2, h3⟩ := e
    exact ⟨x, den_mono h s x h1, y, denL_mono h r y h2, h3⟩
end
mutual
theorem den_below {σ τ : Env} {n : Nat} (h : ∀ i, i < n → τ i = σ i) : ∀ (s : SV), below n s = true → den τ s = den σ s
  | .b _, _ => rfl
  | .i _ _, _ => rfl
  | .s _, _ => rfl
  | .p a o, e => by simp only [below, Nat.blt_eq] at e; simp only [den, h _ e]
  | .pn, _ => rfl
  | .sl a o n c, e => by simp only [below, Nat.blt_eq] at e; simp only [den, h _ e]
  | .sg a o x n, e => by simp only [below, Nat.blt_eq] at e; simp only [den, h _ e]
  | .se a o d x y, e => by simp only [below, Nat.blt_eq] at e; simp only [den, h _ e]
  | .sn, _ => rfl
  | .m a, e => by simp only [below, Nat.blt_eq] at e; simp only [den, h _ e]
  | .mn, _ => rfl
  | .f g a c, e => by simp only [below, Bool.and_eq_true] at e; simp only [den, denL_below h a e.1, denL_below h c e.2]
  | .nf, _ => rfl
  | .ifc t u, e => by simp only [below] at e; simp only [den, den_below h u e]
  | .nifc, _ => rfl
  | .agg l, e => by simp only [below] at e; simp only [den, denL_below h l e]
  | .tup l, e => by simp only [below] at e; simp only [den, denL_below h l e]
theorem denL_below {σ τ : Env} {n : Nat} (h : ∀ i, i < n → τ i = σ i) : ∀ (l : List SV), belows n l = true → denL τ l = denL σ l
  | [], _ => rfl
  | s :: r, e => by simp only [belows, Bool.and_eq_true] at e; simp only [denL, den_below h s e.1, denL_below h r e.2]
end
theorem denL_length {σ : Env} : ∀ (l : List SV) (vs : List Value), denL σ l = some vs → vs.length = l.length
  | [], _, e => by simp only [denL, Option.some.injEq] at e; subst e; rfl
  | s :: r, vs, e => by
    simp only [denL, Option.bind_eq_some_iff, Option.map_eq_some_iff] at e
    obtain ⟨x, h1, y, h2, rfl⟩ := e
    simp [denL_length r y h2]
theorem denL_get {σ : Env} : ∀ (l : List SV) (vs : List Value) (i : Nat) (s : SV), denL σ l = some vs → l[i]? = some s → ∃ v, den σ s = some v ∧ vs[i]? = some v
  | [], _, _, _, _, h => by simp at h
  | s :: r, vs, i, u, e, h => by
    simp only [denL, Option.bind_eq_some_iff, Option.map_eq_some_iff] at e
    obtain ⟨x, h1, y, h2, rfl⟩ := e
    cases i with
    | zero => simp only [List.getElem?_cons_zero, Option.some.injEq] at h; subst h; exact ⟨x, h1, rfl⟩
    | succ i => simp only [List.getElem?_cons_succ] at h ⊢; exact denL_get r y i u h2 h
theorem denL_append {σ : Env} : ∀ (a b : List SV) (x y : List Value), denL σ a = some x → denL σ b = some y → denL σ (a ++ b) = some (x ++ y)
  | [], b, x, y, h, k => by simp only [denL, Option.some.injEq] at h; subst h; exact k
  | s :: r, b, x, y, h, k => by
    simp only [denL, Option.bind_eq_some_iff, Option.map_eq_some_iff] at h
    obtain ⟨u, h1, v, h2, rfl⟩ := h
    simp only [List.cons_append, denL, h1, denL_append r b v y h2 k, Option.bind_some, Option.map_some]
theorem denL_take {σ : Env} : ∀ (n : Nat) (l : List SV) (vs : List Value), denL σ l = some vs → denL σ (l.take n) = some (vs.take n)
  | 0, _, _, _ => by simp [denL]
  | n + 1, [], vs, e => by simp only [denL, Option.some.injEq] at e; subst e; simp [denL]
  | n + 1, s :: r, vs, e => by
    simp only [denL, Option.bind_eq_some_iff, Option.map_eq_some_iff] at e
    obtain ⟨x, h1, y, h2, rfl⟩ := e
    simp only [List.take_succ_cons, denL, h1, denL_take n r y h2, Option.bind_some, Option.map_some]
theorem denL_drop {σ : Env} : ∀ (n : Nat) (l : List SV) (vs : List Value), denL σ l = some vs → denL σ (l.drop n) = some (vs.drop n)
  | 0, _, _, e => by simpa using e
  | n + 1, [], vs, e => by simp only [denL, Option.some.injEq] at e; subst e; simp [denL]
  | n + 1, s :: r, vs, e => by
    simp only [denL, Option.bind_eq_some_iff, Option.map_eq_some_iff] at e
    obtain ⟨x, h1, y, h2, rfl⟩ := e
    simpa using denL_drop n r y h2
/-! ### forcing turns nothing -/
@[simp] theorem forceN_eq {α : Type} (n : Nat) (k : Nat → α) : forceN n k = k n := by cases n <;> rfl
@[simp] theorem forceI_eq {α : Type} (n : Int) (k : Int → α) : forceI n k = k n := by cases n <;> simp [forceI]
@[simp] theorem forceNs_eq {α : Type} : ∀ (l : List Nat) (k : List Nat → α), forceNs l k = k l
  | [], _ => rfl
  | n :: r, k => by simp [forceNs, forceNs_eq r]
mutual
theorem forceV_eq {α : Type} : ∀ (v : SV) (k : SV → α), forceV v k = k v
  | .b x, k => by cases x <;> rfl
  | .i a n, k => by cases a <;> simp [forceV]
  | .s l, k => by simp [forceV]
  | .p a o, k => by simp [forceV]
  | .pn, k => rfl
  | .sl a o n c, k => by simp [forceV]
  | .sg a o e n, k => by simp [forceV]
  | .se a o d e x, k => by simp [forceV]
  | .sn, k => rfl
  | .m a, k => by simp [forceV]
  | .mn, k => rfl
  | .f g a c, k => by simp only [forceV, forceN_eq, forceVs_eq a, forceVs_eq c]
  | .nf, k => rfl
  | .ifc t v, k => by simp only [forceV, forceN_eq, forceV_eq v]
  | .nifc, k => rfl
  | .agg l, k => by simp only [forceV, forceVs_eq l]
  | .tup l, k => by simp only [forceV, forceVs_eq l]
theorem forceVs_eq {α : Type} : ∀ (l : List SV) (k : List SV → α), forceVs l k = k l
  | [], _ => rfl
  | v :: r, k => by simp only [forceVs, forceV_eq v, forceVs_eq r]
end
/-! ### tables -/
theorem par_eq (n : Nat) : par n = decide (n % 2 = 0) := by
  have h : par n = (n % 2).beq 0 := rfl
  rw [h]
  by_cases e : n % 2 = 0
  · rw [e]; rfl
  · rw [decide_eq_false e]
    exact Bool.eq_false_iff.2 fun hb => e (Nat.eq_of_beq_eq_true hb)
theorem get_nil {α : Type} (n : Nat) : (Tr.nil : Tr α).get n = none := rfl
theorem get_zero {α : Type} (l : Tr α) (v : Option α) (r : Tr α) : (Tr.node l v r).get 0 = v := rfl
theorem get_succ {α : Type} (l : Tr α) (v : Option α) (r : Tr α) (n : Nat) : (Tr.node l v r).get (n + 1) = if n % 2 = 0 then l.get (n / 2) else r.get (n / 2) := by
  have h : (Tr.node l v r).get (n + 1) = Bool.rec (r.get (n / 2)) (l.get (n / 2)) (par n) := rfl
  rw [h, par_eq]
  by_cases e : n % 2 = 0
  · rw [if_pos e, decide_eq_true e]
  · rw [if_neg e, decide_eq_false e]
theorem newK_succ {α β : Type} (g n : Nat) (x : α) (k : Tr α → Option β) : Tr.newK (g + 1) (n + 1) x k = if n % 2 = 0 then Tr.newK g (n / 2) x (fun l => k (.node l none .nil)) else Tr.newK g (n / 2) x (fun r => k (.node .nil none r)) := by
  have h : Tr.newK (g + 1) (n + 1) x k = Bool.rec (Tr.newK g (n / 2) x fun r => k (.node .nil none r)) (Tr.newK g (n / 2) x fun l => k (.node l none .nil)) (par n) := rfl
  rw [h, par_eq]
  by_cases e : n % 2 = 0
  · rw [if_pos e, decide_eq_true e]
  · rw [if_neg e, decide_eq_false e]
theorem setK_succ {α β : Type} (g : Nat) (l : Tr α) (v : Option α) (r : Tr α) (n : Nat) (x : α) (k : Tr α → Option β) : Tr.setK g (.node l v r) (n + 1) x k = if n % 2 = 0 then Tr.setK g l (n / 2) x (fun l => k (.node l v r)) else Tr.setK g r (n / 2) x (fun r => k (.node l v r)) := by
  have h : Tr.setK g (.node l v r) (n + 1) x k = Bool.rec (Tr.setK g r (n / 2) x fun r => k (.node l v r)) (Tr.setK g l (n / 2) x fun l => k (.node l v r)) (par n) := rfl
  rw [h, par_eq]
  by_cases e : n % 2 = 0
  · rw [if_pos e, decide_eq_true e]
  · rw [if_neg e, decide_eq_false e]
theorem get_put {α : Type} {l l' : Tr α} {v : Option α} {q : Tr α} {n : Nat} {x : α} (hn : n % 2 = 0) (h2 : ∀ j, l'.get j = if j = n / 2 then some x else l.get j) (j : Nat) : (Tr.node l' v q).get j = if j = n + 1 then some x else (Tr.node l v q).get j := by
  cases j with
  | zero => rw [if_neg (by omega)]; rfl
  | succ j =>
    rw [get_succ, get_succ]
    by_cases hj : j % 2 = 0
    · rw [if_pos hj, if_pos hj, h2]
      by_cases e : j = n
      · subst e; simp
      · rw [if_neg (by omega), if_neg (by omega)]
    · rw [if_neg hj, if_neg hj, if_neg (by omega)]
theorem get_put' {α : Type} {l l' : Tr α} {v : Option α} {q : Tr α} {n : Nat} {x : α} (hn : ¬ n % 2 = 0) (h2 : ∀ j, l'.get j = if j = n / 2 then some x else l.get j) (j : Nat) : (Tr.node q v l').get j = if j = n + 1 then some x else (Tr.node q v l).get j := by
  cases j with
  | zero => rw [if_neg (by omega)]; rfl
  | succ j =>
    rw [get_succ, get_succ]
    by_cases hj : j % 2 = 0
    · rw [if_pos hj, if_pos hj, if_neg (by omega)]
    · rw [if_neg hj, if_neg hj, h2]
      by_cases e : j = n
      · subst e; simp
      · rw [if_neg (by omega), if_neg (by omega)]
theorem get_bare {α : Type} (n : Nat) : (Tr.node .nil none .nil : Tr α).get n = none := by
  cases n with
  | zero => rfl
  | succ n => rw [get_succ]; split <;> rfl
theorem newK_some {α β : Type} : ∀ (g : Nat) (n : Nat) (x : α) (k : Tr α → Option β) (r : β), Tr.newK g n x k = some r → ∃ t', k t' = some r ∧ ∀ j, t'.get j = if j = n then some x else (Tr.nil : Tr α).get j
  | 0, n, x, k, r, h => by cases h
  | g + 1, 0, x, k, r, h => ⟨_, h, fun j => by
      cases j with
      | zero => rfl
      | succ j => rw [if_neg (show ¬ j + 1 = 0 by omega), get_succ]; split <;> rfl⟩
  | g + 1, n + 1, x, k, r, h => by
    rw [newK_succ] at h
    split at h
    · rename_i hn
      obtain ⟨t', h1, h2⟩ := newK_some g (n / 2) x _ r h
      exact ⟨_, h1, fun j => by rw [get_put hn h2, get_bare, get_nil]⟩
    · rename_i hn
      obtain ⟨t', h1, h2⟩ := newK_some g (n / 2) x _ r h
      exact ⟨_, h1, fun j => by rw [get_put' hn h2, get_bare, get_nil]⟩
theorem setK_some {α β : Type} (g : Nat) : ∀ (t : Tr α) (n : Nat) (x : α) (k : Tr α → Option β) (r : β), Tr.setK g t n x k = some r → ∃ t', k t' = some r ∧ ∀ j, t'.get j = if j = n then some x else t.get j
  | .nil, n, x, k, r, h => newK_some g n x k r h
  | .node l v q, 0, x, k, r, h => ⟨_, h, fun j => by
      cases j with
      | zero => rfl
      | succ j => rw [if_neg (show ¬ j + 1 = 0 by omega), get_succ, get_succ]⟩
  | .node l v q, n + 1, x, k, r, h => by
    rw [setK_succ] at h
    split at h
    · rename_i hn
      obtain ⟨t', h1, h2⟩ := setK_some g l (n / 2) x _ r h
      exact ⟨_, h1, get_put hn h2⟩
    · rename_i hn
      obtain ⟨t', h1, h2⟩ := setK_some g q (n / 2) x _ r h
      exact ⟨_, h1, get_put' hn h2⟩
theorem forceQ_eq {α : Type} (v : SV) (k : SV → α) : forceQ v k = k v := by
  unfold forceQ
  split
  · split <;> rfl
  · simp
  · split
    · rw [forceN_eq]
      split <;> first | rfl | rw [forceV_eq]
    · rw [forceV_eq]
  · rw [forceV_eq]
/-! ### the frame, the heap -/
def Rel (σ : Env) (sf : SF) (fr : Fr) : Prop := ∀ t s, sf.get t = some s → ∃ v, den σ s = some v ∧ lk fr t = some v
theorem Rel.mono {σ τ : Env} (h : Pre σ τ) {sf : SF} {fr : Fr} (H : Rel σ sf fr) : Rel τ sf fr := fun t s e => by
  obtain ⟨v, h1, h2⟩ := H t s e
  exact ⟨v, den_mono h s v h1, h2⟩
theorem Rel.put {σ : Env} {sf : SF} {fr : Fr} (H : Rel σ sf fr) {d : Option Nat} {s : SV} {v : Value} (hv : den σ s = some v) {β : Type} {k : SF → Option β} {r : β} (h : putS sf d s k = some r) :
    ∃ sf', k sf' = some r ∧ Rel σ sf' (Vm.put fr d v) ∧ sf'.ng = sf.ng := by
  cases d with
  | none => exact ⟨sf, h, H, rfl⟩
  | some d =>
    simp only [putS, forceQ_eq] at h
    obtain ⟨sf', h1, h2⟩ := setK_some _ _ _ _ _ _ h
    refine ⟨⟨sf.ng, sf'⟩, h1, fun t u e => ?_, rfl⟩
    unfold SF.get at e
    simp only at e
    rw [h2] at e
    simp only [Vm.put, lk]
    split at e
    · rename_i et
      rw [if_pos et]
      cases e
      exact ⟨v, hv, rfl⟩
    · rename_i et
      rw [if_neg et]
      exact H t u e
def gR (q : Nat × Nat) (n : Nat) (tl : List Value) : Option Nat → Prop
  | none => tl = []
  | some k => n = q.2 * k ∧ q.2 ≤ maxLen
/-- what an object is, in the block that stands for it -/
def objR (σ : Env) (q : Nat × Nat) (o : Option Obj) : SO → Prop
  | .row l t g w => ∃ vs tl fz, denL σ l = some vs ∧ (∀ v ∈ vs, v.oneCell' = true) ∧ o = some (.cells (vs ++ tl).toArray t fz) ∧ gR q (vs ++ tl).length tl g ∧ (w = true → fz = (0, 0))
  | .map es => ∃ (mes : Array MapEntry) (c : Nat), o = some (.map mes c) ∧ denL σ (es.map (·.1)) = some (mes.toList.map (·.key)) ∧ denL σ (es.map (·.2)) = some (mes.toList.map (·.val)) ∧ MapKept.Stamped mes c
  | .tab l => ∃ (vs : List Value) (arr : Array Value) (t : TypeId) (fz : Nat × Nat), denL σ l = some vs ∧ o = some (.cells arr t fz) ∧ ∀ (j : Nat) v, vs[j]? = some v → arr[j]? = some v
  | .dead => True
def SO.live : SO → Bool
  | .dead => false
  | _ => true
structure Rep (ng : Nat) (st : St) (σ : Env) (h : Heap) : Prop where
  glob : ∀ g, g < ng → ∃ c, σ g = some (g, c)
  has : ∀ (i : Nat) q, σ i = some q → ng ≤ i → ∃ o, st.hp.get i = some o
  ngn : ng ≤ st.n
  dom : ∀ (i : Nat) q, σ i = some q → i < st.n ∧ q.1 < h.size
  obj : ∀ i o, st.hp.get i = some o → ∃ q, σ i = some q ∧ objR σ q h[q.1]? o
  inj : ∀ i j o o' q r, st.hp.get i = some o → st.hp.get j = some o' → o.live = true → o'.live = true → σ i = some q → σ j = some r → q.1 = r.1 → i = j
/-- a step of the evaluator: which blocks may turn (those that numbers from low on stand for), which numbers are as they were (those below n) -/
structure Steps (n low : Nat) (σ : Env) (h : Heap) (σ' : Env) (h' : Heap) : Prop where
  pre : Pre σ σ'
  same : ∀ i, i < n → σ' i = σ i
  size : h.size ≤ h'.size
  keep : ∀ b, b < h.size → (∀ (i : Nat) q, low ≤ i → σ' i = some q → q.1 ≠ b) → h'[b]? = h[b]?
  new : ∀ (i : Nat) q, σ i = none → σ' i = some q → q.1 < h.size → ∃ (j : Nat) (r : Nat × Nat), low ≤ j ∧ σ j = some r ∧ r.1 = q.1
theorem Steps.refl (n low : Nat) (σ : Env) (h : Heap) : Steps n low σ h σ h :=
  ⟨Pre.refl _, fun _ _ => rfl, Nat.le_refl _, fun _ _ _ => rfl, fun i q hi e _ => by rw [hi] at e; cases e⟩
theorem Steps.ext (n low : Nat) (σ : Env) {h h' : Heap} (e : ExtH h h') : Steps n low σ h σ h' :=
  ⟨Pre.refl _, fun _ _ => rfl, e.size, fun b hb _ => e.block b hb, fun i q hi e _ => by rw [hi] at e; cases e⟩
theorem Steps.trans {n n' low low' : Nat} {σ σ1 σ2 : Env} {h h1 h2 : Heap} (x : Steps n low σ h σ1 h1) (y : Steps n' low' σ1 h1 σ2 h2) (hn : n ≤ n') (hl : low' ≤ low) : Steps n low' σ h σ2 h2 := by
  refine ⟨x.pre.trans y.pre, fun i hi => (y.same i (by omega)).trans (x.same i hi), Nat.le_trans x.size y.size, fun b hb H => ?_, fun i q hi e hq => ?_⟩
  · rw [y.keep b (Nat.lt_of_lt_of_le hb x.size) H]
    exact x.keep b hb fun i q hi e => H i q (Nat.le_trans hl hi) (y.pre i q e)
  · have old : ∀ (i : Nat) (q : Nat × Nat), σ i = none → σ1 i = some q → q.1 < h.size → ∃ (j : Nat) (r : Nat × Nat), low' ≤ j ∧ σ j = some r ∧ r.1 = q.1 := fun i q hi e hq => by
      obtain ⟨j, r, h1, h2⟩ := x.new i q hi e hq
      exact ⟨j, r, Nat.le_trans hl h1, h2⟩
    cases hi1 : σ1 i with
    | some q1 =>
      have := y.pre i q1 hi1
      rw [e] at this
      cases this
      exact old i q hi hi1 hq
    | none =>
      obtain ⟨j, r, h1, h3, h4⟩ := y.new i q hi1 e (Nat.lt_of_lt_of_le hq x.size)
      cases hj : σ j with
      | some r' =>
        have := x.pre j r' hj
        rw [h3] at this
        cases this
        exact ⟨j, r, h1, hj, h4⟩
      | none =>
        obtain ⟨j', r', g1, g3, g4⟩ := old j r hj h3 (by omega)
        exact ⟨j', r', g1, g3, g4.trans h4⟩
theorem Steps.less {n n' low low' : Nat} {σ σ1 : Env} {h h1 : Heap} (x : Steps n low σ h σ1 h1) (hn : n' ≤ n) (hl : low' ≤ low) : Steps n' low' σ h σ1 h1 :=
  ⟨x.pre, fun i hi => x.same i (by omega), x.size, fun b hb H => x.keep b hb fun i q hi e => H i q (Nat.le_trans hl hi) e, fun i q hi e hq => by
    obtain ⟨j, r, h1, h2⟩ := x.new i q hi e hq
    exact ⟨j, r, Nat.le_trans hl h1, h2⟩⟩
/-- nothing old was turned: only blocks came -/
theorem Steps.only {n low : Nat} {σ σ' : Env} {h h' : Heap} (x : Steps n low σ h σ' h') (hd : ∀ i q, σ i = some q → i < low) : ExtH h h' := by
  refine ⟨x.size, fun b hb => x.keep b hb fun i q hi e hq => ?_⟩
  have hnone : σ i = none := by
    cases hs : σ i with
    | none => rfl
    | some r => have := hd i r hs; omega
  obtain ⟨j, r, h1, h2, _⟩ := x.new i q hnone e (by omega)
  have := hd j r h2
  omega
theorem objR.mono {σ τ : Env} (h : Pre σ τ) {q : Nat × Nat} {o : Option Obj} {s : SO} (H : objR σ q o s) : objR τ q o s := by
  cases s with
  | row l t g w =>
    obtain ⟨vs, tl, fz, h1, h2⟩ := H
    exact ⟨vs, tl, fz, denL_mono h _ _ h1, h2⟩
  | map es =>
    obtain ⟨mes, c, h1, h2, h3, h4⟩ := H
    exact ⟨mes, c, h1, denL_mono h _ _ h2, denL_mono h _ _ h3, h4⟩
  | tab l =>
    obtain ⟨vs, arr, t, fz, h1, h2⟩ := H
    exact ⟨vs, arr, t, fz, denL_mono h _ _ h1, h2⟩
  | dead => trivial
theorem Rep.ext {ng : Nat} {st : St} {σ : Env} {h h' : Heap} (H : Rep ng st σ h) (e : ExtH h h') : Rep ng st σ h' :=
  ⟨H.glob, H.has, H.ngn, fun i q hq => ⟨(H.dom i q hq).1, Nat.lt_of_lt_of_le (H.dom i q hq).2 e.size⟩, fun i o ho => by
    obtain ⟨q, hq, hr⟩ := H.obj i o ho
    exact ⟨q, hq, by rw [e.block q.1 (H.dom i q hq).2]; exact hr⟩, H.inj⟩
end Go.Proofs.YtdielfpgekenkaaGreatDoor.Sx
namespace Go.Proofs.YtdielfpgekenkaaGreatDoor.Sx
open Go Vm
set_option linter.unusedSimpArgs false
set_option linter.unusedVariables false
structure CxOk (C : Cx) : Prop where
  ty : ∀ t i, C.ty.get t = some i → C.P.info? t = some i
  room : C.room ≤ 1048576
  flds : ∀ t i, C.ty.get t = some i → ∀ fs, C.P.underlying t = some (.struct fs) → ∀ f ∈ fs.toList, ∃ i, C.P.info? f.type = some i
theorem CxOk.info {C : Cx} (hC : CxOk C) (t : Nat) : C.info t = C.P.info? t := by
  unfold Cx.info
  cases h : C.ty.get t with
  | none => rfl
  | some i => exact (hC.ty t i h).symm
theorem CxOk.und {C : Cx} (hC : CxOk C) (t : Nat) : C.und t = C.P.underlying t := by
  unfold Cx.und Program.underlying
  rw [hC.info]
  cases h : C.P.info? t with
  | none => rfl
  | some i =>
    obtain ⟨d, s1, s2, s3, s4, s5, s6, s7, s8, s9⟩ := i
    cases d <;> simp only
    rename_i nm u
    rw [hC.info]
    cases C.P.info? u <;> rfl
theorem CxOk.size {C : Cx} (hC : CxOk C) {t n : Nat} (h : C.size t = some n) : ∃ i, C.P.info? t = some i ∧ i.size = n := by
  unfold Cx.size at h
  rw [hC.info] at h
  simpa only [Option.map_eq_some_iff] using h
theorem CxOk.roomB {C : Cx} (hC : CxOk C) {e n : Nat} {i : TypeInfo} (hi : C.P.info? e = some i) (h : C.roomB e n = true) : n * i.bytes ≤ 1073741824 ∧ n ≤ 1073741824 := by
  unfold Cx.roomB at h
  rw [hC.info, hi] at h
  simpa using h
/-- what of the heap is needed where it is only read -/
structure Obs (st : St) (σ : Env) (h : Heap) : Prop where
  obj : ∀ i o, st.hp.get i = some o → ∃ q, σ i = some q ∧ objR σ q h[q.1]? o
  inj : ∀ i j o o' q r, st.hp.get i = some o → st.hp.get j = some o' → o.live = true → o'.live = true → σ i = some q → σ j = some r → q.1 = r.1 → i = j
theorem Rep.obs {ng : Nat} {st : St} {σ τ : Env} {h : Heap} (H : Rep ng st σ h) (e : Pre σ τ) : Obs st τ h :=
  ⟨fun i o ho => by
    obtain ⟨q, h1, h2⟩ := H.obj i o ho
    exact ⟨q, pre_get e h1, h2.mono e⟩, fun i j o o' q r hi hj h1 h2 hq hr => by
    obtain ⟨q', hq', _⟩ := H.obj i o hi
    obtain ⟨r', hr', _⟩ := H.obj j o' hj
    rw [pre_get e hq'] at hq
    rw [pre_get e hr'] at hr
    cases hq; cases hr
    exact H.inj i j o o' q r hi hj h1 h2 hq' hr'⟩
structure Frm (σ : Env) (sf : SF) (fr : Fr) : Prop where
  rel : Rel σ sf fr
  glob : ∀ g, g < sf.ng → ∃ c, σ g = some (g, c)
/-! ### constants -/
theorem bytes_back (s : ByteArray) : bytesOf (s.toList.map (·.toNat)) = s := by
  unfold bytesOf
  apply ByteArray.ext
  simp only [List.map_map]
  have : (UInt8.ofNat ∘ fun x : UInt8 => x.toNat) = id := by funext x; simp
  rw [this, List.map_id]
  obtain ⟨⟨l⟩⟩ := s
  simp [ByteArray.toList_mk]
theorem bytes_lt (s : ByteArray) : (s.toList.map (·.toNat)).all (Nat.blt · 256) = true := by
  simp only [List.all_map, List.all_eq_true, Function.comp, Nat.blt_eq]
  intro x _
  exact x.toNat_lt
mutual
theorem ofV_den (σ : Env) : ∀ (v : Value) (s : SV), ofV v = some s → den σ s = some v
  | .bool x, s, h => by simp only [ofV, Option.some.injEq] at h; subst h; rfl
  | .int k n, s, h => by simp only [ofV, Option.some.injEq] at h; subst h; rfl
  | .float _ _, s, h => by simp [ofV] at h
  | .complex _ _ _, s, h => by simp [ofV] at h
  | .string b, s, h => by simp only [ofV, Option.some.injEq] at h; subst h; simp only [den, bytes_lt, if_true, bytes_back]
  | .pointer none, s, h => by simp only [ofV, Option.some.injEq] at h; subst h; rfl
  | .pointer (some _), s, h => by simp [ofV] at h
  | .slice none 0 0, s, h => by simp only [ofV, Option.some.injEq] at h; subst h; rfl
  | .slice none 0 (_ + 1), s, h => by simp [ofV] at h
  | .slice none (_ + 1) _, s, h => by simp [ofV] at h
  | .slice (some _) _ _, s, h => by simp [ofV] at h
  | .map none, s, h => by simp only [ofV, Option.some.injEq] at h; subst h; rfl
  | .map (some _), s, h => by simp [ofV] at h
  | .chan _, s, h => by simp [ofV] at h
  | .func (.func g) ⟨a⟩ ⟨c⟩, s, h => by
    simp only [ofV, Option.bind_eq_some_iff, Option.map_eq_some_iff] at h
    obtain ⟨x, h1, y, h2, rfl⟩ := h
    simp only [den, ofVs_den σ a x h1, ofVs_den σ c y h2, Option.bind_some, Option.map_some]
  | .func (.method _) _ _, s, h => by simp [ofV] at h
  | .func (.methodOf _ _) _ _, s, h => by simp [ofV] at h
  | .func (.via _ _ _ _) _ _, s, h => by simp [ofV] at h
  | .func (.yield _) _ _, s, h => by simp [ofV] at h
  | .nilFunc, s, h => by simp only [ofV, Option.some.injEq] at h; subst h; rfl
  | .iface t v, s, h => by
    simp only [ofV, Option.map_eq_some_iff] at h
    obtain ⟨x, h1, rfl⟩ := h
    simp only [den, ofV_den σ v x h1, Option.map_some]
  | .nilIface, s, h => by simp only [ofV, Option.some.injEq] at h; subst h; rfl
  | .agg ⟨l⟩, s, h => by
    simp only [ofV, Option.map_eq_some_iff] at h
    obtain ⟨x, h1, rfl⟩ := h
    simp only [den, ofVs_den σ l x h1, Option.map_some]
  | .tuple ⟨l⟩, s, h => by
    simp only [ofV, Option.map_eq_some_iff] at h
    obtain ⟨x, h1, rfl⟩ := h
    simp only [den, ofVs_den σ l x h1, Option.map_some]
theorem ofVs_den (σ : Env) : ∀ (l : List Value) (s : List SV), ofVs l = some s → denL σ s = some l
  | [], s, h => by simp only [ofVs, Option.some.injEq] at h; subst h; rfl
  | v :: r, s, h => by
    simp only [ofVs, Option.bind_eq_some_iff, Option.map_eq_some_iff] at h
    obtain ⟨x, h1, y, h2, rfl⟩ := h
    simp only [denL, ofV_den σ v x h1, ofVs_den σ r y h2, Option.bind_some, Option.map_some]
end
section
variable {σ : Env} {sf : SF} {fr : Fr}
theorem evO_ok (hR : Frm σ sf fr) {x : Operand} {s : SV} (h : evO sf x = some s) : ∃ v, ev fr x = some v ∧ den σ s = some v := by
  cases x with
  | tmp t =>
    obtain ⟨v, h1, h2⟩ := hR.rel t s h
    exact ⟨v, h2, h1⟩
  | const v => exact ⟨v, rfl, ofV_den σ v s h⟩
  | global g =>
    simp only [evO] at h
    split at h
    · rename_i hg
      cases h
      obtain ⟨c, hc⟩ := hR.glob g (by simpa using hg)
      exact ⟨_, rfl, by simp [den, hc]⟩
    · cases h
  | func f => cases h; exact ⟨_, rfl, by simp [den, denL]⟩
theorem evOs_ok (hR : Frm σ sf fr) : ∀ (l : List Operand) (s : List SV), evOs sf l = some s → ∃ vs, evs fr l = some vs ∧ denL σ s = some vs
  | [], s, h => by simp only [evOs, Option.some.injEq] at h; subst h; exact ⟨[], rfl, rfl⟩
  | x :: r, s, h => by
    simp only [evOs, Option.bind_eq_some_iff, Option.map_eq_some_iff] at h
    obtain ⟨u, h1, w, h2, rfl⟩ := h
    obtain ⟨v, e1, d1⟩ := evO_ok hR h1
    obtain ⟨vs, e2, d2⟩ := evOs_ok hR r w h2
    exact ⟨v :: vs, by simp only [evs, e1, e2], by simp only [denL, d1, d2, Option.bind_some, Option.map_some]⟩
def denP (σ : Env) : List (Nat × SV) → Option (List (Nat × Value))
  | [] => some []
  | (i, s) :: r => (den σ s).bind fun v => (denP σ r).map ((i, v) :: ·)
theorem evPs_ok (hR : Frm σ sf fr) : ∀ (l : List (Nat × Operand)) (s : List (Nat × SV)), evPs sf l = some s → ∃ vs, evl fr l = some vs ∧ denP σ s = some vs
  | [], s, h => by simp only [evPs, Option.some.injEq] at h; subst h; exact ⟨[], rfl, rfl⟩
  | (i, x) :: r, s, h => by
    simp only [evPs, Option.bind_eq_some_iff, Option.map_eq_some_iff] at h
    obtain ⟨u, h1, w, h2, rfl⟩ := h
    obtain ⟨v, e1, d1⟩ := evO_ok hR h1
    obtain ⟨vs, e2, d2⟩ := evPs_ok hR r w h2
    exact ⟨(i, v) :: vs, by simp only [evl, e1, e2], by simp only [denP, d1, d2, Option.bind_some, Option.map_some]⟩
theorem bndS_ok (hR : Frm σ sf fr) {x : Option Operand} {d n : Nat} (h : bndS sf x d = some n) {k : Int → Prop} (hk : k n) : bnd fr x d k := by
  unfold bndS at h
  unfold bnd
  split at h
  · cases h; exact hk
  · simp only [Option.bind_eq_some_iff] at h
    obtain ⟨s, h1, h2⟩ := h
    obtain ⟨v, e1, d1⟩ := evO_ok hR h1
    split at h2
    · cases h2
      simp only [den, Option.some.injEq] at d1
      subst d1
      simp only [evk, e1]
      exact hk
    · cases h2
end
/-! ### comparisons -/
theorem beq_dec {α : Type} [BEq α] [LawfulBEq α] [DecidableEq α] (x y : α) : (x == y) = decide (x = y) := by
  by_cases h : x = y
  · subst h; simp
  · rw [decide_eq_false h]; simpa using h
theorem pureRun_ok {α : Type} {P : Program} : ∀ (s : Sem α) (v : α), pureRun P s = some v → ∀ w, s.run P w = .ok v w
  | .pure a, v, h, w => by simp only [pureRun, Option.some.injEq] at h; subst h; rfl
  | .program k, v, h, w => by
    simp only [pureRun] at h
    simp only [Sem.run]
    exact pureRun_ok (k P) v h w
  | .load _ _ _, _, h, _ => by simp [pureRun] at h
  | .store _ _ _ _, _, h, _ => by simp [pureRun] at h
  | .new _ _, _, h, _ => by simp [pureRun] at h
  | .shape _ _, _, h, _ => by simp [pureRun] at h
  | .freeze _ _ _, _, h, _ => by simp [pureRun] at h
  | .frozen _ _, _, h, _ => by simp [pureRun] at h
  | .getObj _ _, _, h, _ => by simp [pureRun] at h
  | .setObj _ _ _, _, h, _ => by simp [pureRun] at h
  | .choose _ _, _, h, _ => by simp [pureRun] at h
  | .sys _ _, _, h, _ => by simp [pureRun] at h
  | .mark _ k, v, h, w => by
    simp only [pureRun] at h
    simp only [Sem.run]
    exact pureRun_ok k v h w
  | .halt _, _, h, _ => by simp [pureRun] at h
mutual
theorem toV_den {σ : Env} : ∀ (s : SV) (u v : Value), toV s = some v → den σ s = some u → u = v
  | .b x, u, v, h, e => by simp only [toV, den, Option.some.injEq] at h e; exact e.symm.trans h
  | .i k n, u, v, h, e => by simp only [toV, den, Option.some.injEq] at h e; exact e.symm.trans h
  | .s l, u, v, h, e => by
    simp only [toV, den, Option.some.injEq] at h e
    split at e
    · cases e; exact h
    · cases e
  | .p _ _, u, v, h, e => by simp [toV] at h
  | .pn, u, v, h, e => by simp only [toV, den, Option.some.injEq] at h e; exact e.symm.trans h
  | .sl _ _ _ _, u, v, h, e => by simp [toV] at h
  | .sg _ _ _ _, u, v, h, e => by simp [toV] at h
  | .se _ _ _ _ _, u, v, h, e => by simp [toV] at h
  | .sn, u, v, h, e => by simp only [toV, den, Option.some.injEq] at h e; exact e.symm.trans h
  | .m _, u, v, h, e => by simp [toV] at h
  | .mn, u, v, h, e => by simp only [toV, den, Option.some.injEq] at h e; exact e.symm.trans h
  | .f _ _ _, u, v, h, e => by simp [toV] at h
  | .nf, u, v, h, e => by simp only [toV, den, Option.some.injEq] at h e; exact e.symm.trans h
  | .ifc t x, u, v, h, e => by
    simp only [toV, den, Option.map_eq_some_iff] at h e
    obtain ⟨a, h1, rfl⟩ := h
    obtain ⟨b, e1, rfl⟩ := e
    rw [toV_den x b a h1 e1]
  | .nifc, u, v, h, e => by simp only [toV, den, Option.some.injEq] at h e; exact e.symm.trans h
  | .agg l, u, v, h, e => by
    simp only [toV, den, Option.map_eq_some_iff] at h e
    obtain ⟨a, h1, rfl⟩ := h
    obtain ⟨b, e1, rfl⟩ := e
    rw [toVs_den l b a h1 e1]
  | .tup l, u, v, h, e => by simp [toV] at h
theorem toVs_den {σ : Env} : ∀ (l : List SV) (u v : List Value), toVs l = some v → denL σ l = some u → u = v
  | [], u, v, h, e => by simp only [toVs, denL, Option.some.injEq] at h e; exact e.symm.trans h
  | s :: r, u, v, h, e => by
    simp only [toVs, denL, Option.bind_eq_some_iff, Option.map_eq_some_iff] at h e
    obtain ⟨a, h1, b, h2, rfl⟩ := h
    obtain ⟨c, e1, d, e2, rfl⟩ := e
    rw [toV_den s c a h1 e1, toVs_den r d b h2 e2]
end
theorem ofNat_inj {a b : Nat} (ha : a < 256) (hb : b < 256) : UInt8.ofNat a = UInt8.ofNat b ↔ a = b := by
  constructor
  · intro h
    have := congrArg UInt8.toNat h
    rwa [UInt8.toNat_ofNat_of_lt' ha, UInt8.toNat_ofNat_of_lt' hb] at this
  · rintro rfl; rfl
theorem bytesOf_list (l : List Nat) : (bytesOf l).toList = l.map UInt8.ofNat := by unfold bytesOf; exact ByteArray.toList_mk _
theorem bytesOf_size (l : List Nat) : (bytesOf l).size = l.length := by simp [bytesOf, ByteArray.size]
theorem eqNs_ok : ∀ (x y : List Nat), x.all (Nat.blt · 256) = true → y.all (Nat.blt · 256) = true → eqNs x y = decide (x.map UInt8.ofNat = y.map UInt8.ofNat)
  | [], [], _, _ => rfl
  | [], _ :: _, _, _ => rfl
  | _ :: _, [], _, _ => rfl
  | a :: x, b :: y, hx, hy => by
    simp only [List.all_cons, Bool.and_eq_true, Nat.blt_eq] at hx hy
    simp only [eqNs, List.map_cons, List.cons.injEq, ofNat_inj hx.1 hy.1]
    split
    · rename_i e; rw [eqNs_ok x y hx.2 hy.2]; simp [e]
    · rename_i e; simp [e]
theorem lessS_ok : ∀ (x y : List Nat), x.all (Nat.blt · 256) = true → y.all (Nat.blt · 256) = true → lessS x y = Op.bytesLess (x.map UInt8.ofNat) (y.map UInt8.ofNat)
  | [], [], _, _ => rfl
  | [], _ :: _, _, _ => rfl
  | _ :: _, [], _, _ => rfl
  | a :: x, b :: y, hx, hy => by
    simp only [List.all_cons, Bool.and_eq_true, Nat.blt_eq] at hx hy
    simp only [lessS, List.map_cons, Op.bytesLess]
    have hlt : (UInt8.ofNat a < UInt8.ofNat b) ↔ a < b := by
      rw [UInt8.lt_iff_toNat_lt, UInt8.toNat_ofNat_of_lt' hx.1, UInt8.toNat_ofNat_of_lt' hy.1]
    split
    · rename_i e; subst e; rw [lessS_ok x y hx.2 hy.2]; simp
    · rename_i e
      have : (UInt8.ofNat a == UInt8.ofNat b) = false := by
        rw [beq_eq_false_iff_ne]; exact fun h => e ((ofNat_inj hx.1 hy.1).1 h)
      simp [this, hlt]
theorem intS_ok {op : BinOp} {a : IntKind} {x y : Int} {s : SV} (h : intS op a x y = some s) (σ : Env) : ∃ v, den σ s = some v ∧ ∀ k : Value → Prop, k v → intk op a x y k := by
  unfold intS b2 at h
  split at h
  case h_16 => cases h
  case h_4 => split at h; · cases h
              · rename_i h0; cases h; exact ⟨_, rfl, fun k hk => ⟨h0, hk⟩⟩
  case h_5 => split at h; · cases h
              · rename_i h0; cases h; exact ⟨_, rfl, fun k hk => ⟨h0, hk⟩⟩
  case h_10 => cases h; exact ⟨_, rfl, fun k hk => by unfold intk; rw [beq_dec]; exact hk⟩
  case h_11 => cases h; exact ⟨_, rfl, fun k hk => by unfold intk; rw [show (x != y) = !(x == y) from rfl, beq_dec]; exact hk⟩
  all_goals cases h; exact ⟨_, rfl, fun k hk => hk⟩
section
variable {C : Cx} (hC : CxOk C) {σ : Env}
theorem den_s {l : List Nat} {v : Value} (e : den σ (.s l) = some v) : l.all (Nat.blt · 256) = true ∧ v = .string (bytesOf l) := by
  simp only [den] at e
  split at e
  · rename_i hl; cases e; exact ⟨hl, rfl⟩
  · cases e
theorem den_str {l : List Nat} (e : l.all (Nat.blt · 256) = true) : den σ (.s l) = some (.string (bytesOf l)) := by simp only [den, e, if_true]
include hC in
theorem strS_ok {op : BinOp} {t : Nat} {xo yo : Operand} {x y : List Nat} {s : SV} {u v : Value} (e : C.binS op t xo yo (.s x) (.s y) = some s) (hx : den σ (.s x) = some u) (hy : den σ (.s y) = some v) :
    ∃ r, den σ s = some r ∧ ∀ k : Value → Prop, k r → binq C.P op t xo yo u v k := by
  obtain ⟨ax, rfl⟩ := den_s hx
  obtain ⟨ay, rfl⟩ := den_s hy
  have hg : ∀ op w, (eqGuard op t xo yo (.string (bytesOf x)) (.string (bytesOf y))).run C.P w = .ok () w := fun op w => by
    unfold eqGuard
    cases op <;> simp
  have gen : ∀ (op : BinOp) (r : Value), (op ≠ .add ∧ op ≠ .eql ∧ op ≠ .neq ∧ op ≠ .lss) → (∀ w, (binOp op t (.string (bytesOf x)) (.string (bytesOf y))).run C.P w = .ok r w) → ∀ k : Value → Prop, k r → binq C.P op t xo yo (.string (bytesOf x)) (.string (bytesOf y)) k := by
    intro op r ⟨h1, h2, h3, h4⟩ hr k hk
    unfold binq
    cases op <;> first
      | exact absurd rfl h1
      | exact absurd rfl h2
      | exact absurd rfl h3
      | exact absurd rfl h4
      | exact ⟨r, fun w => by rw [Sem.run_bind, hg]; exact hr w, hk⟩
  have hr := hC.room
  have heq : ((bytesOf x).toList == (bytesOf y).toList) = eqNs x y := by rw [beq_dec, bytesOf_list, bytesOf_list, eqNs_ok x y ax ay]
  have hlt : Op.bytesLess (bytesOf x).toList (bytesOf y).toList = lessS x y := by rw [bytesOf_list, bytesOf_list, lessS_ok x y ax ay]
  cases op <;> simp only [Cx.binS, b2] at e
  case add =>
    split at e
    · rename_i hl
      cases e
      refine ⟨_, den_str (by rw [List.all_append, ax, ay]; rfl), fun k hk => ⟨by rw [bytesOf_size, bytesOf_size]; omega, ?_⟩⟩
      have : bytesOf x ++ bytesOf y = bytesOf (x ++ y) := by
        apply ByteArray.ext
        rw [ByteArray.data_append]
        simp [bytesOf]
      rw [this]
      exact hk
    · cases e
  case eql => cases e; exact ⟨_, rfl, fun k hk => (show k (.bool ((bytesOf x).toList == (bytesOf y).toList)) from heq ▸ hk)⟩
  case neq => cases e; exact ⟨_, rfl, fun k hk => (show k (.bool !((bytesOf x).toList == (bytesOf y).toList)) from heq ▸ hk)⟩
  case lss => cases e; exact ⟨_, rfl, fun k hk => (show k (.bool (Op.bytesLess (bytesOf x).toList (bytesOf y).toList)) from hlt ▸ hk)⟩
  case leq => cases e; exact ⟨_, rfl, gen .leq _ (by simp) (fun w => by simp [binOp, Op.stringOp, heq, hlt])⟩
  case gtr => cases e; exact ⟨_, rfl, gen .gtr _ (by simp) (fun w => by simp [binOp, Op.stringOp, heq, hlt])⟩
  case geq => cases e; exact ⟨_, rfl, gen .geq _ (by simp) (fun w => by simp [binOp, Op.stringOp, heq, hlt])⟩
  all_goals cases e
theorem equal_run {P : Program} {t : TypeId} {u v : Value} {b : Bool} {w : World} (h : ∀ n, (Op.equalIn (n + 1) t u v).run P w = .ok b w) : (Op.equal t u v).run P w = .ok b w := h 9999
def plainV (u : Value) : Prop := (∀ k n, u ≠ .int k n) ∧ (∀ s, u ≠ .string s) ∧ (∀ k n, u ≠ .float k n) ∧ (∀ k n m, u ≠ .complex k n m)
structure EqR (P : Program) (t : TypeId) (xo yo : Operand) (u v : Value) (b : Bool) : Prop where
  guard : ∀ op w, (eqGuard op t xo yo u v).run P w = .ok () w
  eq : ∀ w, (Op.equal t u v).run P w = .ok b w
  pl : plainV u
theorem plain_b (b : Bool) : plainV (.bool b) := ⟨by simp, by simp, by simp, by simp⟩
theorem plain_p (b : Option Addr) : plainV (.pointer b) := ⟨by simp, by simp, by simp, by simp⟩
theorem plain_s (b : Option Addr) (n c : Nat) : plainV (.slice b n c) := ⟨by simp, by simp, by simp, by simp⟩
theorem plain_m (b : Option Nat) : plainV (.map b) := ⟨by simp, by simp, by simp, by simp⟩
theorem plain_nf : plainV .nilFunc := ⟨by simp, by simp, by simp, by simp⟩
theorem plain_f (f : Fn) (a c : Array Value) : plainV (.func f a c) := ⟨by simp, by simp, by simp, by simp⟩
theorem plain_ni : plainV .nilIface := ⟨by simp, by simp, by simp, by simp⟩
theorem plain_if (t : TypeId) (v : Value) : plainV (.iface t v) := ⟨by simp, by simp, by simp, by simp⟩
section
variable {P : Program} {t : TypeId} {w : World}
theorem eq_bool (ht : P.underlying t = some .bool) (a b : Bool) : (Op.equal t (.bool a) (.bool b)).run P w = .ok (a == b) w := equal_run fun n => by simp [Op.equalIn, run_underlying ht]
theorem eq_pn {e : TypeId} (ht : P.underlying t = some (.pointer e)) (b : Option Addr) : (Op.equal t (.pointer none) (.pointer b)).run P w = .ok b.isNone w := equal_run fun n => by simp [Op.equalIn, run_underlying ht]
theorem eq_np {e : TypeId} (ht : P.underlying t = some (.pointer e)) (b : Addr) : (Op.equal t (.pointer (some b)) (.pointer none)).run P w = .ok false w := equal_run fun n => by simp [Op.equalIn, run_underlying ht]
theorem eq_pp {e : TypeId} {i : TypeInfo} (ht : P.underlying t = some (.pointer e)) (hi : P.info? e = some i) (hs : i.size ≠ 0) (b o o' : Nat) :
    (Op.equal t (.pointer (some ⟨b, o, none⟩)) (.pointer (some ⟨b, o', none⟩))).run P w = .ok (decide (o = o')) w := equal_run fun n => by
  have : ((⟨b, o, none⟩ : Addr) == ⟨b, o', none⟩) = decide (o = o') := by rw [beq_dec]; simp
  simp [Op.equalIn, run_underlying ht, Vm.run_sizeOf hi, hs, sameAddr, this]
theorem eq_sn {e : TypeId} (ht : P.underlying t = some (.slice e)) (b : Option Addr) (n c n' c' : Nat) : (Op.equal t (.slice none n c) (.slice b n' c')).run P w = .ok b.isNone w := equal_run fun n => by simp [Op.equalIn, run_underlying ht]
theorem eq_ns {e : TypeId} (ht : P.underlying t = some (.slice e)) (b : Addr) (n c n' c' : Nat) : (Op.equal t (.slice (some b) n c) (.slice none n' c')).run P w = .ok false w := equal_run fun n => by simp [Op.equalIn, run_underlying ht]
theorem eq_mn {k e : TypeId} (ht : P.underlying t = some (.map k e)) (b : Option Nat) : (Op.equal t (.map none) (.map b)).run P w = .ok b.isNone w := equal_run fun n => by simp [Op.equalIn, run_underlying ht]
theorem eq_nm {k e : TypeId} (ht : P.underlying t = some (.map k e)) (b : Nat) : (Op.equal t (.map (some b)) (.map none)).run P w = .ok false w := equal_run fun n => by simp [Op.equalIn, run_underlying ht]
theorem eq_fnn {a b : Array TypeId} {c : Bool} (ht : P.underlying t = some (.func a b c)) : (Op.equal t .nilFunc .nilFunc).run P w = .ok true w := equal_run fun n => by simp [Op.equalIn, run_underlying ht]
theorem eq_fn {a b : Array TypeId} {c : Bool} (ht : P.underlying t = some (.func a b c)) (f : Fn) (x y : Array Value) : (Op.equal t .nilFunc (.func f x y)).run P w = .ok false w := equal_run fun n => by simp [Op.equalIn, run_underlying ht]
theorem eq_nfn {a b : Array TypeId} {c : Bool} (ht : P.underlying t = some (.func a b c)) (f : Fn) (x y : Array Value) : (Op.equal t (.func f x y) .nilFunc).run P w = .ok false w := equal_run fun n => by simp [Op.equalIn, run_underlying ht]
theorem eq_inn {m : Array (String × TypeId)} (ht : P.underlying t = some (.interface m)) : (Op.equal t .nilIface .nilIface).run P w = .ok true w := equal_run fun n => by simp [Op.equalIn, run_underlying ht]
theorem eq_in {m : Array (String × TypeId)} (ht : P.underlying t = some (.interface m)) (d : TypeId) (x : Value) : (Op.equal t .nilIface (.iface d x)).run P w = .ok false w := equal_run fun n => by simp [Op.equalIn, run_underlying ht]
theorem eq_ni {m : Array (String × TypeId)} (ht : P.underlying t = some (.interface m)) (d : TypeId) (x : Value) : (Op.equal t (.iface d x) .nilIface).run P w = .ok false w := equal_run fun n => by simp [Op.equalIn, run_underlying ht]
end
theorem guard_plain {P : Program} {u v : Value} (h : u ≠ .nilIface) (h' : ∀ l, u ≠ .agg l) (op : BinOp) (t : TypeId) (xo yo : Operand) (w : World) : (eqGuard op t xo yo u v).run P w = .ok () w := by
  unfold eqGuard
  cases op <;> first
    | (simp; done)
    | (cases u <;> first
        | exact absurd rfl h
        | exact absurd rfl (h' _)
        | simp)
theorem den_p {σ : Env} {a o : Nat} {v : Value} (e : den σ (.p a o) = some v) : ∃ q, σ a = some q ∧ v = .pointer (some ⟨q.1, o, none⟩) := by
  simp only [den, Option.map_eq_some_iff] at e
  obtain ⟨q, hq, rfl⟩ := e
  exact ⟨q, hq, rfl⟩
theorem den_sl {σ : Env} {a o n c : Nat} {v : Value} (e : den σ (.sl a o n c) = some v) : ∃ q, σ a = some q ∧ (n ≤ c ∧ c ≤ maxLen) ∧ v = .slice (some ⟨q.1, o, none⟩) n c := by
  simp only [den] at e
  split at e
  · rename_i hn
    simp only [Option.map_eq_some_iff] at e
    obtain ⟨q, hq, rfl⟩ := e
    exact ⟨q, hq, hn, rfl⟩
  · cases e
theorem den_sg {σ : Env} {a o x n : Nat} {v : Value} (e : den σ (.sg a o x n) = some v) : ∃ q, σ a = some q ∧ (x + n ≤ q.2 ∧ q.2 ≤ maxLen) ∧ v = .slice (some ⟨q.1, o, none⟩) n (q.2 - x) := by
  simp only [den, Option.bind_eq_some_iff] at e
  obtain ⟨q, hq, e⟩ := e
  split at e
  · rename_i hn; cases e; exact ⟨q, hq, hn, rfl⟩
  · cases e
theorem den_se {σ : Env} {a o d e x : Nat} {v : Value} (h : den σ (.se a o d e x) = some v) : ∃ q, σ a = some q ∧ (e + x ≤ q.2 ∧ q.2 ≤ maxLen) ∧ v = .slice (some ⟨q.1, if q.2 - e = x then o else o + d, none⟩) 0 (q.2 - e - x) := by
  simp only [den, Option.bind_eq_some_iff] at h
  obtain ⟨q, hq, h⟩ := h
  split at h
  · rename_i hn; cases h; exact ⟨q, hq, hn, rfl⟩
  · cases h
theorem den_i {σ : Env} {k : IntKind} {n : Int} {v : Value} (e : den σ (.i k n) = some v) : v = .int k n := by simpa [den] using e.symm
theorem den_b {σ : Env} {b : Bool} {v : Value} (e : den σ (.b b) = some v) : v = .bool b := by simpa [den] using e.symm
theorem den_m {σ : Env} {a : Nat} {v : Value} (e : den σ (.m a) = some v) : ∃ q, σ a = some q ∧ v = .map (some q.1) := by
  simp only [den, Option.map_eq_some_iff] at e
  obtain ⟨q, hq, rfl⟩ := e
  exact ⟨q, hq, rfl⟩
theorem den_pn {σ : Env} {v : Value} (e : den σ .pn = some v) : v = .pointer none := by simpa [den] using e.symm
theorem den_sn {σ : Env} {v : Value} (e : den σ .sn = some v) : v = .slice none 0 0 := by simpa [den] using e.symm
theorem den_mn {σ : Env} {v : Value} (e : den σ .mn = some v) : v = .map none := by simpa [den] using e.symm
theorem den_nf {σ : Env} {v : Value} (e : den σ .nf = some v) : v = .nilFunc := by simpa [den] using e.symm
theorem den_nifc {σ : Env} {v : Value} (e : den σ .nifc = some v) : v = .nilIface := by simpa [den] using e.symm
theorem den_ifc {σ : Env} {t : Nat} {s : SV} {v : Value} (e : den σ (.ifc t s) = some v) : ∃ x, den σ s = some x ∧ v = .iface t x := by
  simp only [den, Option.map_eq_some_iff] at e
  obtain ⟨q, hq, rfl⟩ := e
  exact ⟨q, hq, rfl⟩
theorem den_f {σ : Env} {g : Nat} {a c : List SV} {v : Value} (e : den σ (.f g a c) = some v) : ∃ x y, denL σ a = some x ∧ denL σ c = some y ∧ v = .func (.func g) x.toArray y.toArray := by
  simp only [den, Option.bind_eq_some_iff, Option.map_eq_some_iff] at e
  obtain ⟨x, h1, y, h2, rfl⟩ := e
  exact ⟨x, y, h1, h2, rfl⟩
include hC in
theorem eqS_ok {t : Nat} {xo yo : Operand} {x y : SV} {b : Bool} {u v : Value} (e : C.eqS t xo yo x y = some b) (hx : den σ x = some u) (hy : den σ y = some v) : EqR C.P t xo yo u v b := by
  unfold Cx.eqS at e
  rw [hC.und] at e
  split at e
  · rename_i ht
    split at e
    · cases e; rw [den_b hx, den_b hy]
      exact ⟨fun op w => guard_plain (by simp) (by simp) op t xo yo w, fun w => eq_bool ht _ _, plain_b _⟩
    · cases e
  · rename_i el ht
    split at e
    · cases e; rw [den_pn hx, den_pn hy]
      exact ⟨fun op w => guard_plain (by simp) (by simp) op t xo yo w, fun w => eq_pn ht _, plain_p _⟩
    · cases e; obtain ⟨q, _, rfl⟩ := den_p hy; rw [den_pn hx]
      exact ⟨fun op w => guard_plain (by simp) (by simp) op t xo yo w, fun w => eq_pn ht _, plain_p _⟩
    · cases e; obtain ⟨q, _, rfl⟩ := den_p hx; rw [den_pn hy]
      exact ⟨fun op w => guard_plain (by simp) (by simp) op t xo yo w, fun w => eq_np ht _, plain_p _⟩
    · rename_i a o a' o'
      split at e
      · rename_i ea
        subst ea
        simp only [Option.bind_eq_some_iff] at e
        obtain ⟨n, hn, e⟩ := e
        obtain ⟨i, hi, rfl⟩ := hC.size hn
        split at e
        · cases e
        · rename_i hs
          cases e
          obtain ⟨q, hq, rfl⟩ := den_p hx
          obtain ⟨q', hq', rfl⟩ := den_p hy
          rw [hq] at hq'; cases hq'
          exact ⟨fun op w => guard_plain (by simp) (by simp) op t xo yo w, fun w => eq_pp ht hi hs _ _ _, plain_p _⟩
      · cases e
    · cases e
  · rename_i el ht
    split at e
    · cases e; rw [den_sn hx, den_sn hy]
      exact ⟨fun op w => guard_plain (by simp) (by simp) op t xo yo w, fun w => eq_sn ht _ _ _ _ _, plain_s _ _ _⟩
    · cases e; obtain ⟨q, _, _, rfl⟩ := den_sl hy; rw [den_sn hx]
      exact ⟨fun op w => guard_plain (by simp) (by simp) op t xo yo w, fun w => eq_sn ht _ _ _ _ _, plain_s _ _ _⟩
    · cases e; obtain ⟨q, _, _, rfl⟩ := den_sg hy; rw [den_sn hx]
      exact ⟨fun op w => guard_plain (by simp) (by simp) op t xo yo w, fun w => eq_sn ht _ _ _ _ _, plain_s _ _ _⟩
    · cases e; obtain ⟨q, _, _, rfl⟩ := den_se hy; rw [den_sn hx]
      exact ⟨fun op w => guard_plain (by simp) (by simp) op t xo yo w, fun w => eq_sn ht _ _ _ _ _, plain_s _ _ _⟩
    · cases e; obtain ⟨q, _, _, rfl⟩ := den_sl hx; rw [den_sn hy]
      exact ⟨fun op w => guard_plain (by simp) (by simp) op t xo yo w, fun w => eq_ns ht _ _ _ _ _, plain_s _ _ _⟩
    · cases e; obtain ⟨q, _, _, rfl⟩ := den_sg hx; rw [den_sn hy]
      exact ⟨fun op w => guard_plain (by simp) (by simp) op t xo yo w, fun w => eq_ns ht _ _ _ _ _, plain_s _ _ _⟩
    · cases e; obtain ⟨q, _, _, rfl⟩ := den_se hx; rw [den_sn hy]
      exact ⟨fun op w => guard_plain (by simp) (by simp) op t xo yo w, fun w => eq_ns ht _ _ _ _ _, plain_s _ _ _⟩
    · cases e
  · rename_i ht
    split at e
    · cases e; rw [den_mn hx, den_mn hy]
      exact ⟨fun op w => guard_plain (by simp) (by simp) op t xo yo w, fun w => eq_mn ht _, plain_m _⟩
    · cases e; obtain ⟨q, _, rfl⟩ := den_m hy; rw [den_mn hx]
      exact ⟨fun op w => guard_plain (by simp) (by simp) op t xo yo w, fun w => eq_mn ht _, plain_m _⟩
    · cases e; obtain ⟨q, _, rfl⟩ := den_m hx; rw [den_mn hy]
      exact ⟨fun op w => guard_plain (by simp) (by simp) op t xo yo w, fun w => eq_nm ht _, plain_m _⟩
    · cases e
  · rename_i ht
    split at e
    · cases e; rw [den_nf hx, den_nf hy]
      exact ⟨fun op w => guard_plain (by simp) (by simp) op t xo yo w, fun w => eq_fnn ht, plain_nf⟩
    · cases e; obtain ⟨_, _, _, _, rfl⟩ := den_f hy; rw [den_nf hx]
      exact ⟨fun op w => guard_plain (by simp) (by simp) op t xo yo w, fun w => eq_fn ht _ _ _, plain_nf⟩
    · cases e; obtain ⟨_, _, _, _, rfl⟩ := den_f hx; rw [den_nf hy]
      exact ⟨fun op w => guard_plain (by simp) (by simp) op t xo yo w, fun w => eq_nfn ht _ _ _, plain_f _ _ _⟩
    · cases e
  · rename_i ht
    split at e
    · split at e
      · rename_i hc
        cases e; rw [den_nifc hx, den_nifc hy]
        refine ⟨fun op w => ?_, fun w => eq_inn ht, plain_ni⟩
        unfold eqGuard
        cases op <;> first
          | (simp; done)
          | (cases xo <;> cases yo <;> first
              | (simp [isC] at hc; done)
              | (simp; done))
      · cases e
    · cases e; obtain ⟨_, _, rfl⟩ := den_ifc hy; rw [den_nifc hx]
      refine ⟨fun op w => ?_, fun w => eq_in ht _ _, plain_ni⟩
      unfold eqGuard
      cases op <;> simp
    · cases e; obtain ⟨_, _, rfl⟩ := den_ifc hx; rw [den_nifc hy]
      exact ⟨fun op w => guard_plain (by simp) (by simp) op t xo yo w, fun w => eq_ni ht _ _, plain_if _ _⟩
    · cases e
  · cases e
end
end Go.Proofs.YtdielfpgekenkaaGreatDoor.Sx
