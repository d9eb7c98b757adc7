/-
  Workers, as they lie in memory; slices.Index and Contains of states; package pool's is, lives, made, turn.
-/
import Derived.Test.YtcmjgkjnnmfijaaVmEq
import Derived.Test.YtcmjgkjnnmfijaaVmHead
import Derived.Test.YtcmjgkjnnmfijaaShaBits
import Derived.Test.YtcmjgkjnnmfijaaProg
namespace Go.Proofs.Ytcmjgkjnnmfijaa
open Go Vm
set_option maxRecDepth 100000
set_option linter.unusedVariables false
theorem say {k : Value → Prop} {p : Prop} [Decidable p] (b : Bool) (hb : decide p = b) (hk : k (.bool b)) : k (.bool (decide p)) := by rw [hb]; exact hk
structure Wk where
  n : Int
  st : Int
  sl : Int
  key : List UInt8
  ld : Int
  id : Int
def wkC (w : Wk) : List Value := .int .i64 w.n :: .int .i64 w.st :: .int .i64 w.sl :: (w.key.map u8v ++ [.int .i64 w.ld, .int .i64 w.id])
def cellsW (ws : List Wk) : List Value := ws.flatMap wkC
def keysOk (ws : List Wk) : Prop := ∀ w ∈ ws, w.key.length = 32
theorem wkC_length {w : Wk} (h : w.key.length = 32) : (wkC w).length = 37 := by simp [wkC, h]
theorem cellsW_length : ∀ {ws : List Wk}, keysOk ws → (cellsW ws).length = ws.length * 37
  | [], _ => rfl
  | w :: ws, h => by
    have h1 := cellsW_length (ws := ws) (fun x hx => h x (by simp [hx]))
    have h2 := wkC_length (h w (by simp))
    show (wkC w ++ cellsW ws).length = _
    rw [List.length_append, h1, h2, List.length_cons]
    omega
theorem cellsW_at {ws : List Wk} (hk : keysOk ws) {i : Nat} {w : Wk} (hw : ws[i]? = some w) (tl : List Value) (k : Nat) (u : Value) (hu : (wkC w)[k]? = some u) : (cellsW ws ++ tl)[i * 37 + k]? = some u := by
  induction ws generalizing i with
  | nil => simp at hw
  | cons x ws ih =>
    have hx := wkC_length (hk x (by simp))
    show ((wkC x ++ cellsW ws) ++ tl)[i * 37 + k]? = some u
    rw [List.append_assoc]
    cases i with
    | zero =>
      simp at hw
      subst hw
      have := (List.getElem?_eq_some_iff.1 hu).1
      rw [List.getElem?_append_left (by omega)]
      simpa using hu
    | succ i =>
      rw [List.getElem?_append_right (by omega), hx, show (i + 1) * 37 + k - 37 = i * 37 + k by omega]
      exact ih (fun y hy => hk y (by simp [hy])) (by simpa using hw)
theorem cellsW_set {ws : List Wk} (hk : keysOk ws) {i : Nat} {w w' : Wk} (hw : ws[i]? = some w) (tl : List Value) (k : Nat) (v : Value) (hkl : k < 37) (hs : (wkC w).set k v = wkC w') : (cellsW ws ++ tl).set (i * 37 + k) v = cellsW (ws.set i w') ++ tl := by
  induction ws generalizing i with
  | nil => simp at hw
  | cons x ws ih =>
    have hx := wkC_length (hk x (by simp))
    cases i with
    | zero =>
      simp at hw
      subst hw
      show ((wkC x ++ cellsW ws) ++ tl).set (0 * 37 + k) v = (wkC w' ++ cellsW ws) ++ tl
      rw [List.append_assoc, List.append_assoc, Nat.zero_mul, Nat.zero_add, List.set_append_left _ _ (by omega), hs]
    | succ i =>
      show ((wkC x ++ cellsW ws) ++ tl).set ((i + 1) * 37 + k) v = (wkC x ++ cellsW (ws.set i w')) ++ tl
      rw [List.append_assoc, List.append_assoc, List.set_append_right _ _ (by omega), hx, show (i + 1) * 37 + k - 37 = i * 37 + k by omega]
      rw [ih (fun y hy => hk y (by simp [hy])) (by simpa using hw)]
theorem wkC_st (w : Wk) (z : Int) : (wkC w).set 1 (.int .i64 z) = wkC { w with st := z } := rfl
theorem wkC_ld {w : Wk} (h : w.key.length = 32) (z : Int) : (wkC w).set 35 (.int .i64 z) = wkC { w with ld := z } := by
  show _ :: _ :: _ :: (w.key.map u8v ++ [Value.int .i64 w.ld, Value.int .i64 w.id]).set 32 _ = _
  rw [List.set_append_right _ _ (by simp [h])]
  simp [wkC, h]
theorem wkC_id {w : Wk} (h : w.key.length = 32) (z : Int) : (wkC w).set 36 (.int .i64 z) = wkC { w with id := z } := by
  show _ :: _ :: _ :: (w.key.map u8v ++ [Value.int .i64 w.ld, Value.int .i64 w.id]).set 33 _ = _
  rw [List.set_append_right _ _ (by simp [h])]
  simp [wkC, h]
theorem wkC_get_ld {w : Wk} (h : w.key.length = 32) : (wkC w)[35]? = some (.int .i64 w.ld) := by
  show (w.key.map u8v ++ [Value.int .i64 w.ld, Value.int .i64 w.id])[32]? = _
  rw [List.getElem?_append_right (by simp [h])]
  simp [h]
theorem wkC_get_id {w : Wk} (h : w.key.length = 32) : (wkC w)[36]? = some (.int .i64 w.id) := by
  show (w.key.map u8v ++ [Value.int .i64 w.ld, Value.int .i64 w.id])[33]? = _
  rw [List.getElem?_append_right (by simp [h])]
  simp [h]
theorem wkC_one (w : Wk) : ∀ x ∈ wkC w, x.oneCell' = true := by
  intro x hx
  simp only [wkC, List.mem_cons, List.mem_append, List.mem_map, List.not_mem_nil, or_false] at hx
  rcases hx with rfl | rfl | rfl | ⟨b, _, rfl⟩ | rfl | rfl <;> rfl
/-- integers that are read -/
def RI (h : Heap) (v : Value) (l : List Int) : Prop := Src h 1 v l.length (l.map (Value.int .i64))
theorem RI.more {h h' : Heap} {v : Value} {l : List Int} (r : RI h v l) (e : ExtH h h') : RI h' v l := Src.more r e
theorem RI.fix {h : Heap} {v : Value} {l : List Int} (r : RI h v l) : ∃ a c, v = .slice a l.length c ∧ l.length ≤ maxLen := by
  rcases r.2 with ⟨rfl, h0⟩ | ⟨A, cap, rfl, hc, hm, _⟩
  · exact ⟨none, 0, by rw [h0], by omega⟩
  · exact ⟨some A, cap, rfl, by omega⟩
theorem RI.get {h : Heap} {a : Option Addr} {n c : Nat} {l : List Int} (r : RI h (.slice a n c) l) (t : Nat) (hlt : t < l.length) : ∃ b o, a = some ⟨b, o, none⟩ ∧ rd h ⟨b, o + t, none⟩ = some (.int .i64 (l.getD t 0)) := by
  rcases r.2 with ⟨h1, h2⟩ | ⟨A, cap, h1, hc, hm, hr⟩
  · omega
  · injection h1 with h1
    have hne : l.map (Value.int .i64) ≠ [] := by intro e; simp at e; subst e; simp at hlt
    have hs := hr.spot hne
    rw [hs, rdA_plain] at hr
    refine ⟨A.block, A.off, by rw [← hs]; exact h1, hr t _ ?_⟩
    rw [List.getElem?_map, List.getElem?_eq_getElem hlt, List.getD_eq_getElem?_getD, List.getElem?_eq_getElem hlt]
    rfl
theorem RI.of_newed {h h' : Heap} {c : Array Value} {l : List Int} {e : TypeId} {k : Nat} (n : Newed h h' (.cells c e)) (hc : c.toList = l.map (Value.int .i64)) (hk : k = l.length) (hm : l.length ≤ maxLen) : RI h' (.slice (some ⟨h.size, 0, none⟩) k k) l := by
  subst hk
  refine ⟨by simp, .inr ⟨⟨h.size, 0, none⟩, l.length, rfl, Nat.le_refl _, hm, rdA_plain.2 ?_⟩⟩
  rw [← hc]
  exact n.blk.all
theorem int_eq_true {a b : Int} (h : a = b) : (a == b) = true := by simp [h]
theorem int_eq_false {a b : Int} (h : a ≠ b) : (a == b) = false := by simp [h]
theorem index_fn {h : Heap} {v : Value} {l : List Int} (x : Int) (r : RI h v l) :
    Fx Try.prog 62 #[v, .int .i64 x] h fun u h' => ∃ z : Int, u = .int .i64 z ∧ (0 ≤ z ↔ x ∈ l) ∧ h' = h := by
  refine fn_of 19 Try.func62 rfl (by kernel_rfl) rfl (by simp) ?_
  obtain ⟨a, c, e, hm⟩ := r.fix
  have hmax : maxLen < 9223372036854775808 := by decide
  subst e
  refine cw_seq (cw_region rfl ?_)
  refine cw_seq (cw_seq (cw_region rfl ?_))
  conv => whnf
  refine cw_block ?_
  refine cw_loop (S := Nat) (fun t => [(0, .slice a l.length c), (1, .int .i64 x), (7, .int .i64 (l.length : Int)), (8, .int .i64 (t : Int))])
    (fun t h' => t ≤ l.length ∧ (∀ i, i < t → l.getD i 0 ≠ x) ∧ h' = h) (fun t => l.length - t) 0 ⟨rfl, rfl, rfl, rfl, trivial⟩ ⟨by omega, fun i hi => by omega, rfl⟩ ?_
  rintro t h0 ⟨ht, hno, e⟩
  subst h0
  refine cw_seq (cw_region rfl ?_)
  by_cases hlt : t < l.length
  · refine cw_seq (cw_yes rfl (by omega) (cw_skip ?_))
    obtain ⟨b, o, rfl, hr⟩ := r.get t hlt
    refine cw_seq (cw_block (cw_seq (cw_region rfl ?_)))
    refine cw_seq (cw_region rfl ?_)
    conv => whnf
    refine ⟨⟨by omega, by omega⟩, ?_⟩
    conv => whnf
    refine ⟨_, hr, ?_⟩
    conv => whnf
    by_cases hx : x = l.getD t 0
    · refine cw_beq_yes rfl hx ?_
      refine cw_seq (cw_region rfl ?_)
      refine cw_ret ⟨(t : Int), rfl, ⟨fun _ => ?_, fun _ => by omega⟩, rfl⟩
      rw [hx, List.getD_eq_getElem?_getD, List.getElem?_eq_getElem hlt]
      exact List.getElem_mem hlt
    · refine cw_beq_no rfl hx (cw_skip ?_)
      refine cw_region rfl ?_
      exact ⟨t + 1, ⟨rfl, rfl, rfl, slot_i64 _ _ (by omega) (by omega), trivial⟩, ⟨by omega, fun i hi => by
        by_cases hit : i < t
        · exact hno i hit
        · have : i = t := by omega
          rw [this]; exact fun e => hx e.symm, rfl⟩, by omega⟩
  · refine cw_seq (cw_no rfl (by omega) (cw_exit ?_))
    refine cw_seq (cw_region rfl ?_)
    refine cw_ret ⟨-1, rfl, ⟨fun h => by omega, fun h => ?_⟩, rfl⟩
    obtain ⟨i, hi, e⟩ := List.getElem_of_mem h
    have := hno i (by omega)
    rw [List.getD_eq_getElem?_getD, List.getElem?_eq_getElem hi] at this
    exact absurd e this
theorem contains_fn {h : Heap} {v : Value} {l : List Int} (x : Int) (r : RI h v l) :
    Fx Try.prog 57 #[v, .int .i64 x] h fun u h' => u = .bool (decide (x ∈ l)) ∧ h' = h := by
  refine fn_of 9 Try.func57 rfl (by kernel_rfl) rfl (by simp) ?_
  refine cw_seq (cw_region rfl ?_)
  refine cw_seq (cw_region rfl ?_)
  conv => whnf
  refine ⟨_, rfl, _, index_fn x r, ?_⟩
  rintro _ h1 ⟨z, rfl, hz, e⟩
  subst h1
  refine cw_ret ⟨?_, rfl⟩
  show Value.bool (decide (0 ≤ z)) = _
  congr 1
  simp only [decide_eq_decide]
  exact hz
theorem is_fn {h : Heap} {v : Value} {l : List Int} (w : Wk) (hk : w.key.length = 32) (r : RI h v l) :
    Fx Try.prog 38 #[.agg (wkC w).toArray, v] h fun u h' => u = .bool (decide (w.st ∈ l)) ∧ ExtH h h' := by
  refine fn_of 9 Try.func38 rfl (by kernel_rfl) rfl (by simp) ?_
  refine cw_seq (cw_region rfl ?_)
  conv => whnf
  intro h1 n1
  have y1 : Blk h1 h.size (wkC w) 31 := n1.blk
  refine cw_seq (cw_region rfl ?_)
  conv => whnf
  refine ⟨_, y1.rd (o := 1) rfl, ?_⟩
  conv => whnf
  refine ⟨_, rfl, _, contains_fn w.st (r.more n1.ext), ?_⟩
  rintro _ h2 ⟨rfl, e⟩
  subst h2
  exact cw_ret ⟨rfl, n1.ext⟩
def isLive (w : Wk) : Bool := decide (w.st ∈ [1, 2, 3, 4])
theorem lives_fn {h : Heap} (w : Wk) (hk : w.key.length = 32) : Fx Try.prog 37 #[.agg (wkC w).toArray] h fun u h' => u = .bool (isLive w) ∧ ExtH h h' := by
  refine fn_of 6 Try.func37 rfl (by kernel_rfl) rfl (by simp) ?_
  refine cw_seq (cw_region rfl ?_)
  conv => whnf
  intro h1 n1
  have y1 : Blk h1 h.size (wkC w) 31 := n1.blk
  refine cw_seq (cw_region rfl ?_)
  conv => whnf
  refine ⟨_, by rw [wkC_length hk]; rfl, y1.all, ?_⟩
  conv => whnf
  refine ⟨_, rfl, #[.int .i64 1, .int .i64 2, .int .i64 3, .int .i64 4], 77, fun w => by kernel_rfl, ?_⟩
  intro h2 n2
  conv => whnf
  refine ⟨_, rfl, _, is_fn w hk (RI.of_newed n2 (l := [1, 2, 3, 4]) rfl rfl (by decide)), ?_⟩
  rintro _ h3 ⟨rfl, x3⟩
  exact cw_ret ⟨rfl, (n1.ext.trans n2.ext).trans x3⟩
end Go.Proofs.Ytcmjgkjnnmfijaa
