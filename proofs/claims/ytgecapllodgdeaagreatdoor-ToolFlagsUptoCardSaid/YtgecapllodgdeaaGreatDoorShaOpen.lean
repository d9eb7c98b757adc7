/-
  What the row says of an argument, as the contracts want it: an array of bytes, bytes that are read.
-/
import Derived.Test.YtgecapllodgdeaaGreatDoorRows
import Derived.Test.YtgecapllodgdeaaGreatDoorShaStr
import Derived.Test.YtgecapllodgdeaaGreatDoorShaRow
namespace Go.Proofs.YtgecapllodgdeaaGreatDoor
open Go Vm
open Go.ChangeShapes Go.WideShapes Go.ChangeAt Go.RowKit
set_option maxRecDepth 100000
section
variable {H : Type} {enc : TypeId × Value → H} {w : World} {base : Nat} {spare : Nat → Bool} {held : Bool}
/-- bytes out of numbers that fit -/
theorem bytes_of (zs : List Int) (h : ∀ z ∈ zs, (Lit.int .u8 z).wf = true) : ∃ l : List UInt8, l.length = zs.length ∧ zs = l.map (fun b => (b.toNat : Int)) := by
  refine ⟨zs.map (fun z => UInt8.ofNat z.toNat), by simp, ?_⟩
  rw [List.map_map]
  conv => lhs; rw [← List.map_id zs]
  apply List.map_congr_left
  intro z hz
  have := bounds_u8 (h z hz)
  simp
  omega
theorem open_arr {P : Program} {t e : TypeId} {n : Nat} {k : IntKind} {v : Value} {d : DataW H} {ps : List MemPlace} {r : Reach} {b0 : Nat} (ht : P.underlying t = some (.array n e)) (he : P.underlying e = some (.int k)) (hc : P.cellsOf e = 1) (hct : P.cellsOf t = n)
    (hval : Value.okWide P w r b0 t v) (hd : DataW.Trod enc P w base spare held t v d ps) : ∃ zs : List Int, zs.length = n ∧ v = .agg (zs.map (Value.int k)).toArray ∧ ∀ z ∈ zs, (Lit.int k z).wf = true := by
  obtain ⟨cs, rfl⟩ : ∃ cs, v = .agg cs := by
    simp only [Value.okWide, ht] at hval
    obtain ⟨cs, h1, _⟩ := hval
    exact ⟨cs, h1⟩
  obtain ⟨fuel, hf⟩ := hd
  obtain ⟨xs, m, _, _, hlen, hxs, hall⟩ := DataW.trod_array ht hf
  rw [hct] at hlen
  simp only [Value.cells] at hlen hall
  have hsz : cs.size = n := by simpa using hlen
  have key : ∀ i, i < n → ∃ z, cs.toList[i]? = some (.int k z) ∧ (Lit.int k z).wf = true := fun i hi => by
    have h1 := hall i hi
    rw [hc, Nat.mul_one, List.getElem?_eq_getElem (show i < xs.length by omega)] at h1
    obtain ⟨z, h2, _, h3⟩ := DataW.trod_int he h1
    refine ⟨z, ?_, h3⟩
    have h4 := congrArg (fun l => l[0]?) h2
    simpa [List.getElem?_take, List.getElem?_drop] using h4
  refine ⟨cs.toList.map (fun v => intOf v), by simp; omega, ?_, ?_⟩
  · congr 1
    apply Array.ext'
    refine List.ext_getElem? fun i => ?_
    by_cases hi : i < n
    · obtain ⟨z, h1, _⟩ := key i hi
      rw [List.map_map]
      simp only [List.getElem?_map, h1]
      rfl
    · rw [List.getElem?_eq_none (by simp; omega), List.getElem?_eq_none (by simp; omega)]
  · intro z hz
    obtain ⟨v, hv, rfl⟩ := List.mem_map.1 hz
    obtain ⟨i, hi, rfl⟩ := List.getElem_of_mem hv
    obtain ⟨z, h1, h2⟩ := key i (by omega)
    rw [List.getElem?_eq_getElem hi] at h1
    injection h1 with h1
    rw [h1]
    exact h2
theorem open_digest {v : Value} {d : DataW H} {ps : List MemPlace} {r : Reach} {b0 : Nat} (hval : Value.okWide Tryz.prog w r b0 53 v) (hd : DataW.Trod enc Tryz.prog w base spare held 53 v d ps) :
    ∃ l : List UInt8, l.length = 32 ∧ v = .agg (l.map u8v).toArray := by
  obtain ⟨zs, h1, h2, h3⟩ := open_arr (P := Tryz.prog) (n := 32) (e := 5) (k := .u8) rfl rfl (by kernel_rfl) (by kernel_rfl) hval hd
  obtain ⟨l, h4, h5⟩ := bytes_of zs h3
  refine ⟨l, by omega, ?_⟩
  rw [h2, h5, map_u8v]
/-- bytes that came in: they are read, in old blocks, and the row's bulk bounds them -/
theorem open_bytes {v : Value} {d : DataW H} {ps : List MemPlace} {r : Reach} {b0 : Nat} (hval : Value.okWide Tryz.prog w r b0 33 v) (hd : DataW.Trod enc Tryz.prog w base spare held 33 v d ps) :
    ∃ l : List UInt8, RD (fun b => b < w.heap.size) w.heap v l ∧ l.length ≤ Rows.uptoBulk d := by
  obtain ⟨a0, len, cap, rfl⟩ := okWide_slice (P := Tryz.prog) (e := 5) rfl hval
  have hspot : ∀ a, a0 = some a → a.spot = none := by
    rintro a rfl
    have := hval
    simp only [Value.okWide, show Tryz.prog.underlying 33 = some (.slice 5) from rfl, Cell.okWide, Cell.ok, World.has] at this
    exact this.2.2.2.1
  obtain ⟨fuel, hf⟩ := hd
  rcases open_ints (P := Tryz.prog) (e := 5) (k := .u8) rfl rfl (by kernel_rfl) hf with ⟨hcs, _⟩ | ⟨a, l, c, zs, hcs, _, hl, hm, hz, hx, hcell, hwz⟩
  · simp [Value.cells] at hcs
    obtain ⟨rfl, rfl, rfl⟩ := hcs
    exact ⟨[], RD.nil, Nat.zero_le _⟩
  · simp [Value.cells] at hcs
    obtain ⟨rfl, rfl, rfl⟩ := hcs
    have hs := hspot a rfl
    obtain ⟨b, o, spot⟩ := a
    simp only [] at hs
    subst hs
    have hzl : len ≤ zs.length := by rw [hz]; split <;> omega
    obtain ⟨m, h4, h5⟩ := bytes_of (zs.take len) (fun z hz => hwz z (List.mem_of_mem_take hz))
    have hlen : m.length = len := by rw [h4, List.length_take]; omega
    have hrd : rdN w.heap b o (m.map u8v) := fun j u hj => by
      have hjl : j < len := by have := (List.getElem?_eq_some_iff.1 hj).1; simpa [hlen] using this
      have := hcell j (by omega)
      rw [add_none, cell_eq_rd] at this
      rw [this]
      rw [map_u8v, ← h5, List.getElem?_map, List.getElem?_take, if_pos hjl] at hj
      rw [← hj, List.getElem?_eq_getElem (show j < zs.length by omega), List.getD_eq_getElem?_getD, List.getElem?_eq_getElem (show j < zs.length by omega)]
      rfl
    refine ⟨m, ⟨⟨by simp, .inr ⟨⟨b, o, none⟩, cap, by rw [hlen], by omega, hm, rdA_plain.2 hrd⟩⟩, fun hne c hc => ?_⟩, ?_⟩
    · rw [ob_slice] at hc
      subst hc
      cases m with
      | nil => exact absurd rfl hne
      | cons x m => exact rd_lt (hrd 0 (u8v x) rfl)
    · injection hx with hx
      subst hx
      have : ∀ ys : List Int, ys.length ≤ Rows.uptoBulkAll (lits (H := H) .u8 ys) := by
        intro ys
        induction ys with
        | nil => exact Nat.zero_le _
        | cons y ys ih =>
          show ys.length + 1 ≤ Rows.uptoBulk _ + Rows.uptoBulkAll _
          have : Rows.uptoBulk (DataW.lit (H := H) (.int .u8 y)) = 1 := by simp [Rows.uptoBulk]
          rw [this]
          have := ih
          simp only [lits] at this
          omega
      have h6 := this (zs.take len)
      simp only [Rows.uptoBulk]
      rw [List.length_take] at h6
      omega
end
end Go.Proofs.YtgecapllodgdeaaGreatDoor
