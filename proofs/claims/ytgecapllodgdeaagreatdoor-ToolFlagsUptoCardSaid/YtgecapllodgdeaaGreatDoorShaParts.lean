/-
  What the row says of a list of parts, and of a tag with parts.
-/
import Derived.Test.YtgecapllodgdeaaGreatDoorShaOpen
import Derived.ChangeSame
import Derived.ChangeMaps
namespace Go.Proofs.YtgecapllodgdeaaGreatDoor
open Go Vm
open Go.ChangeShapes Go.WideShapes Go.ChangeAt Go.RowKit
set_option maxRecDepth 100000
theorem lists_of {α : Type} (p : Nat → α → Prop) : ∀ n : Nat, (∀ i, i < n → ∃ x, p i x) → ∃ xs : List α, xs.length = n ∧ ∀ i x, xs[i]? = some x → p i x
  | 0, _ => ⟨[], rfl, fun i x h => by simp at h⟩
  | n + 1, H => by
    obtain ⟨xs, h1, h2⟩ := lists_of p n (fun i hi => H i (by omega))
    obtain ⟨x, hx⟩ := H n (by omega)
    refine ⟨xs ++ [x], by simp [h1], fun i y hy => ?_⟩
    by_cases hi : i < n
    · rw [List.getElem?_append_left (by omega)] at hy
      exact h2 i y hy
    · have hlt := (List.getElem?_eq_some_iff.1 hy).1
      simp only [List.length_append, List.length_cons, List.length_nil, h1] at hlt
      have : i = n := by omega
      subst this
      rw [List.getElem?_append_right (by omega), h1] at hy
      simp at hy
      exact hy ▸ hx
section
variable {H : Type} {enc : TypeId × Value → H} {w : World} {base : Nat} {spare : Nat → Bool} {held : Bool}
theorem lits_bulk : ∀ ys : List Int, ys.length ≤ Rows.uptoBulkAll (lits (H := H) .u8 ys)
  | [] => Nat.zero_le _
  | y :: ys => by
    have h1 : Rows.uptoBulkAll (lits (H := H) .u8 (y :: ys)) = 1 + Rows.uptoBulkAll (lits (H := H) .u8 ys) := by simp [lits, Rows.uptoBulkAll, Rows.uptoBulk]
    have h2 := lits_bulk ys
    rw [h1, List.length_cons]
    omega
theorem cell_spot {w : World} {A : Addr} {v : Value} (h : w.cell? A = some v) : A.spot = none := by
  obtain ⟨b, o, spot⟩ := A
  cases spot with
  | none => rfl
  | some q =>
    rw [cell_eq_rd] at h
    unfold rd at h
    split at h
    · simp at h
    · cases h
/-- a cell that holds bytes -/
theorem open_bytes_cell {fuel : Nat} {cs : List Value} {x : DataW H × List MemPlace} (hf : DataW.trod enc Tryz.prog w base spare held fuel 33 cs = some x) :
    ∃ (v : Value) (l : List UInt8), cs = [v] ∧ RD (fun b => b < w.heap.size) w.heap v l ∧ l.length + 1 ≤ Rows.uptoBulk x.1 := by
  rcases open_ints (P := Tryz.prog) (e := 5) (k := .u8) rfl rfl (by kernel_rfl) hf with ⟨hcs, hx⟩ | ⟨a, len, cap, zs, hcs, _, hl, hm, hz, hx, hcell, hwz⟩
  · subst hx
    exact ⟨_, [], hcs, RD.nil, Nat.le_refl _⟩
  · have hzl : len ≤ zs.length := by rw [hz]; split <;> omega
    obtain ⟨m, h4, h5⟩ := bytes_of (zs.take len) (fun z hz => hwz z (List.mem_of_mem_take hz))
    have hlen : m.length = len := by rw [h4, List.length_take]; omega
    have hrd : rdA w.heap a (m.map u8v) := fun j u hj => by
      have hjl : j < len := by have := (List.getElem?_eq_some_iff.1 hj).1; simpa [hlen] using this
      have := hcell j (by omega)
      rw [cell_eq_rd] at this
      rw [this]
      rw [map_u8v, ← h5, List.getElem?_map, List.getElem?_take, if_pos hjl] at hj
      rw [← hj, List.getElem?_eq_getElem (show j < zs.length by omega), List.getD_eq_getElem?_getD, List.getElem?_eq_getElem (show j < zs.length by omega)]
      rfl
    refine ⟨_, m, hcs, ⟨⟨by simp, .inr ⟨a, cap, by rw [hlen], by omega, hm, hrd⟩⟩, fun hne c hc => ?_⟩, ?_⟩
    · obtain ⟨o', n', c', hc⟩ := hc
      injection hc with hc
      injection hc with hc
      subst hc
      cases m with
      | nil => exact absurd rfl hne
      | cons x m => exact rd_lt (rdA_plain.1 hrd 0 (u8v x) rfl)
    · subst hx
      have h6 := lits_bulk (H := H) (zs.take len)
      simp only [Rows.uptoBulk]
      rw [List.length_take] at h6
      omega
theorem bulk_sum {elems : List (DataW H × List MemPlace)} : ∀ {xs : List (Value × List UInt8)}, xs.length = elems.length → (∀ (i : Nat) (x : Value × List UInt8) (y : DataW H × List MemPlace), xs[i]? = some x → elems[i]? = some y → x.2.length + 1 ≤ Rows.uptoBulk y.1) →
    (xs.map (·.2)).flatten.length + xs.length ≤ Rows.uptoBulkAll (elems.map (·.1)) := by
  induction elems with
  | nil => intro xs h _; have := List.eq_nil_of_length_eq_zero h; subst this; exact Nat.zero_le _
  | cons e es ih =>
    intro xs h hb
    cases xs with
    | nil => cases h
    | cons x xs =>
      have h1 := hb 0 x e rfl rfl
      have h2 := ih (by simpa using h) (fun i a b ha hb' => hb (i + 1) a b ha hb')
      simp only [List.map_cons, List.flatten_cons, List.length_append, List.length_cons, Rows.uptoBulkAll]
      omega
theorem open_parts_cell {fuel : Nat} {cs : List Value} {x : DataW H × List MemPlace} (hf : DataW.trod enc Tryz.prog w base spare held fuel 94 cs = some x) :
    ∃ (v : Value) (ms : List (List UInt8)) (pv : List Value), cs = [v] ∧ PD (fun b => b < w.heap.size) w.heap v ms pv ∧ ms.flatten.length + ms.length + 1 ≤ Rows.uptoBulk x.1 := by
  rcases DataW.trod_slice (P := Tryz.prog) (e := 33) rfl hf with ⟨hcs, hx⟩ | ⟨a, len, cap, elems, rest, n, _, hcs, hx, _, hl, hm, hlen, hel, _, _⟩
  · subst hx
    exact ⟨_, [], [], hcs, PD.empty, Nat.le_refl _⟩
  · have hone : Tryz.prog.cellsOf 33 = 1 := by kernel_rfl
    obtain ⟨xs, hxl, hxs⟩ := lists_of (fun i (y : Value × List UInt8) => rd w.heap (a.add i) = some y.1 ∧ RD (fun b => b < w.heap.size) w.heap y.1 y.2 ∧ ∀ e, elems[i]? = some e → y.2.length + 1 ≤ Rows.uptoBulk e.1) len (fun i hi => by
      have h1 := hel i hi
      rw [List.getElem?_eq_getElem (show i < elems.length by omega), hone, Nat.mul_one, Option.bind_eq_some_iff] at h1
      obtain ⟨cs, h2, h3⟩ := h1
      obtain ⟨v, l, rfl, h4, h5⟩ := open_bytes_cell h3
      refine ⟨(v, l), ?_, h4, fun e he => ?_⟩
      · have := cell_of_cells?_one h2
        rwa [cell_eq_rd] at this
      · rw [List.getElem?_eq_getElem (show i < elems.length by omega)] at he
        injection he with he
        rw [← he]; exact h5)
    have hrd : rdA w.heap a (xs.map (·.1)) := fun j u hj => by
      rw [List.getElem?_map] at hj
      cases hy : xs[j]? with
      | none => rw [hy] at hj; simp at hj
      | some y => rw [hy] at hj; simp at hj; rw [← hj]; exact (hxs j y hy).1
    refine ⟨_, xs.map (·.2), xs.map (·.1), hcs, ⟨⟨by simp, .inr ⟨a, cap, by simp [hxl], by simp [hxl]; omega, hm, hrd⟩⟩, fun hne c hc => ?_, fun i m hi => ?_⟩, ?_⟩
    · obtain ⟨o', n', c', hc⟩ := hc
      injection hc with hc
      injection hc with hc
      subst hc
      cases xs with
      | nil => exact absurd rfl hne
      | cons y ys => exact rd_lt (rdA_plain.1 hrd 0 y.1 rfl)
    · rw [List.getElem?_map] at hi
      cases hy : xs[i]? with
      | none => rw [hy] at hi; simp at hi
      | some y =>
        rw [hy] at hi
        simp at hi
        refine ⟨y.1, by rw [List.getElem?_map, hy]; rfl, ?_⟩
        rw [← hi]
        exact (hxs i y hy).2.1
    · have h1 := bulk_sum (elems := elems) (xs := xs) (by omega) (fun i x y hx hy => (hxs i x hx).2.2 y hy)
      subst hx
      simp only [Rows.uptoBulk, List.length_map]
      omega
theorem open_parts {v : Value} {d : DataW H} {ps : List MemPlace} {r : Reach} {b0 : Nat} (hval : Value.okWide Tryz.prog w r b0 94 v) (hd : DataW.Trod enc Tryz.prog w base spare held 94 v d ps) :
    ∃ (ms : List (List UInt8)) (pv : List Value), PD (fun b => b < w.heap.size) w.heap v ms pv ∧ ms.flatten.length + ms.length + 1 ≤ Rows.uptoBulk d := by
  obtain ⟨a0, len, cap, rfl⟩ := okWide_slice (P := Tryz.prog) (e := 33) rfl hval
  obtain ⟨fuel, hf⟩ := hd
  obtain ⟨v, ms, pv, hcs, h1, h2⟩ := open_parts_cell hf
  simp [Value.cells] at hcs
  subst hcs
  exact ⟨ms, pv, h1, h2⟩
end
end Go.Proofs.YtgecapllodgdeaaGreatDoor
