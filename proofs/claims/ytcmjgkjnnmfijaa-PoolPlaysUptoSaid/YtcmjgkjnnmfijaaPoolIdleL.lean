/-
  PoolIdle's plain law: what some ticks do to a worker, and how often its number is told.
-/
import Derived.Test.YtcmjgkjnnmfijaaPoolLoadsW
namespace Go.Proofs.Ytcmjgkjnnmfijaa
open Go Vm
set_option maxRecDepth 100000
set_option linter.unusedVariables false
set_option linter.unusedSimpArgs false
def tickN (id : Int) : Nat → Wk → Wk
  | 0, w => w
  | k + 1, w => tickW id (tickN id k w)
def ticks (id : Int) : Nat → List Wk → List Wk
  | 0, ws => ws
  | k + 1, ws => (ticks id k ws).map (tickW id)
def deadL (id : Int) : Nat → List Wk → List Int
  | 0, ws => []
  | k + 1, ws => deadL id k ws ++ tickOut id (ticks id k ws)
theorem Inv.ticks {wk sl id : Int} {ws : List Wk} (I : Inv wk sl id ws) : ∀ k, Inv wk sl id (ticks id k ws)
  | 0 => I
  | k + 1 => (I.ticks k).tick
theorem ticks_length (id : Int) (ws : List Wk) : ∀ k, (ticks id k ws).length = ws.length
  | 0 => rfl
  | k + 1 => by
    show ((ticks id k ws).map (tickW id)).length = _
    rw [List.length_map, ticks_length id ws k]
theorem tickOut_length (id : Int) (ws : List Wk) : (tickOut id ws).length ≤ ws.length := by
  unfold tickOut
  rw [List.length_map]
  exact List.length_filter_le _ _
theorem deadL_length (id : Int) (ws : List Wk) : ∀ k, (deadL id k ws).length ≤ k * ws.length
  | 0 => by simp [deadL]
  | k + 1 => by
    have h1 := deadL_length id ws k
    have h2 := tickOut_length id (ticks id k ws)
    have h3 := ticks_length id ws k
    show (deadL id k ws ++ tickOut id (ticks id k ws)).length ≤ _
    rw [List.length_append, Nat.add_mul, Nat.one_mul]
    omega
theorem ticks_at (id : Int) {ws : List Wk} {i : Nat} {w : Wk} (hw : ws[i]? = some w) : ∀ k, (ticks id k ws)[i]? = some (tickN id k w)
  | 0 => hw
  | k + 1 => by
    show ((ticks id k ws).map (tickW id))[i]? = some (tickW id (tickN id k w))
    rw [List.getElem?_map, ticks_at id hw k]
    rfl
theorem tickN_other {id : Int} {w : Wk} (h : w.st ≠ 2) : ∀ k, tickN id k w = w
  | 0 => rfl
  | k + 1 => by
    show tickW id (tickN id k w) = w
    rw [tickN_other h k, tickW_other h]
theorem tickN_early {id : Int} {w : Wk} (h : w.st = 2) : ∀ k : Nat, w.id + k < id → tickN id k w = { w with id := w.id + k }
  | 0, _ => by simp [tickN]
  | k + 1, hk => by
    show tickW id (tickN id k w) = _
    rw [tickN_early h k (by omega)]
    unfold tickW
    rw [if_pos h, if_neg (show ¬ id ≤ (w.id + (k : Int)) + 1 by omega)]
    rw [show ((k + 1 : Nat) : Int) = (k : Int) + 1 from rfl]
    congr 1
    show w.id + (k : Int) + 1 = _
    omega
theorem tickN_add (id : Int) (a : Nat) (w : Wk) : ∀ b, tickN id (a + b) w = tickN id b (tickN id a w)
  | 0 => rfl
  | b + 1 => by
    show tickW id (tickN id (a + b) w) = tickW id (tickN id b (tickN id a w))
    rw [tickN_add id a w b]
theorem tickN_late {id : Int} {w : Wk} (h : w.st = 2) (hid : w.id < id) (k : Nat) (hk : id ≤ w.id + k) : (tickN id k w).st = 6 := by
  obtain ⟨a, ha⟩ : ∃ a : Nat, id = w.id + a + 1 := ⟨(id - w.id - 1).toNat, by omega⟩
  have e1 := tickN_early (id := id) h a (by omega)
  have e2 : (tickN id (a + 1) w).st = 6 := by
    show (tickW id (tickN id a w)).st = 6
    rw [e1]
    unfold tickW
    rw [if_pos h, if_pos (show id ≤ (w.id + (a : Int)) + 1 by omega)]
  obtain ⟨b, rfl⟩ : ∃ b, k = (a + 1) + b := ⟨k - (a + 1), by omega⟩
  rw [tickN_add]
  rw [tickN_other (id := id) (w := tickN id (a + 1) w) (by omega)]
  exact e2
theorem count_pair (id : Int) (w : Wk) : ∀ (ws : List Wk), ws.Pairwise (fun a b => a.n < b.n) → w ∈ ws → ((ws.filter (tickB id)).map Wk.n).count w.n = if tickB id w then 1 else 0
  | [], _, hm => by cases hm
  | x :: ws, hpw, hm => by
    rw [List.pairwise_cons] at hpw
    obtain ⟨h1, h2⟩ := hpw
    rcases List.mem_cons.1 hm with rfl | hm
    · have ho : ((ws.filter (tickB id)).map Wk.n).count w.n = 0 := by
        rw [List.count_eq_zero]
        intro hc
        obtain ⟨y, hy, e⟩ := List.mem_map.1 hc
        have := h1 y (List.mem_filter.1 hy).1
        omega
      rw [List.filter_cons]
      cases hb : tickB id w with
      | true => simp [ho]
      | false => simpa using ho
    · have hne := h1 w hm
      have key := count_pair id w ws h2 hm
      rw [List.filter_cons]
      cases hb : tickB id x with
      | true =>
        simp only [if_true, List.map_cons]
        rw [List.count_cons_of_ne (by omega)]
        exact key
      | false => simpa using key
/-- how often a number is told at one tick -/
theorem out_count {wk sl id : Int} {ws : List Wk} (I : Inv wk sl id ws) {i : Nat} {w : Wk} (hw : ws[i]? = some w) : (tickOut id ws).count w.n = if tickB id w then 1 else 0 :=
  count_pair id w ws (num_pair I.num) (List.mem_of_getElem? hw)
theorem tickN_n (id : Int) (w : Wk) : ∀ k, (tickN id k w).n = w.n
  | 0 => rfl
  | k + 1 => by
    show (tickW id (tickN id k w)).n = w.n
    rw [tickW_n, tickN_n id w k]
theorem dead_count {wk sl id : Int} {ws : List Wk} (I : Inv wk sl id ws) {i : Nat} {w : Wk} (hw : ws[i]? = some w) : ∀ k : Nat, (deadL id k ws).count w.n = if w.st = 2 ∧ id ≤ w.id + k then 1 else 0
  | 0 => by
    have := (I.ok (List.mem_of_getElem? hw)).idle
    rw [if_neg (by show ¬ (w.st = 2 ∧ id ≤ w.id + ((0 : Nat) : Int)); omega)]
    rfl
  | k + 1 => by
    have hid := (I.ok (List.mem_of_getElem? hw)).idle
    have h1 := dead_count I hw k
    have h2 := out_count (I.ticks k) (ticks_at id hw k)
    rw [tickN_n] at h2
    show (deadL id k ws ++ tickOut id (ticks id k ws)).count w.n = _
    rw [List.count_append, h1, h2]
    have ek : ((k + 1 : Nat) : Int) = (k : Int) + 1 := rfl
    by_cases hst : w.st = 2
    · by_cases hlate : id ≤ w.id + k
      · have h6 := tickN_late hst hid.2 k hlate
        have hb : tickB id (tickN id k w) = false := by simp [tickB, h6]
        rw [if_pos ⟨hst, hlate⟩, hb, if_neg (by decide), if_pos ⟨hst, by omega⟩]
      · have he := tickN_early (id := id) hst k (by omega)
        rw [if_neg (fun e => hlate e.2), he]
        by_cases hnow : id ≤ w.id + k + 1
        · have hb : tickB id { w with id := w.id + k } = true := by simp [tickB, hst]; omega
          rw [hb, if_pos rfl, if_pos ⟨hst, by omega⟩]
        · have hb : tickB id { w with id := w.id + k } = false := by simp [tickB, hst]; omega
          rw [hb, if_neg (by decide), if_neg (fun e => by have := e.2; omega)]
    · have hb : tickB id (tickN id k w) = false := by rw [tickN_other hst]; simp [tickB, hst]
      rw [if_neg (fun e => hst e.1), hb, if_neg (by decide), if_neg (fun e => hst e.1)]
end Go.Proofs.Ytcmjgkjnnmfijaa
