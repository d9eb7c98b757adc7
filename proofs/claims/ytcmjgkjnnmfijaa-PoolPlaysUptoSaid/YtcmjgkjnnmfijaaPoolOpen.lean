/-
  What the row says of a pool's limits, of a call, and of a list of calls.
-/
import Derived.Test.YtcmjgkjnnmfijaaRows
import Derived.Test.YtcmjgkjnnmfijaaPoolLived
import Derived.Test.YtcmjgkjnnmfijaaShaRow
import Derived.ChangeSame
import Derived.ChangeMaps
namespace Go.Proofs.Ytcmjgkjnnmfijaa
open Go Vm
open Go.ChangeShapes Go.WideShapes Go.ChangeAt Go.RowKit
set_option maxRecDepth 100000
theorem lists_of {α : Type} (p : Nat → α → Prop) : ∀ n : Nat, (∀ i, i < n → ∃ x, p i x) → ∃ xs : List α, xs.length = n ∧ ∀ i x, xs[i]? = some x → p i x
  | 0, _ => ⟨[], rfl, fun i x h => by simp at h⟩
  | n + 1, H => by
    obtain ⟨xs, h1, h2⟩ := lists_of p n (fun i hi => H i (by omega))
    obtain ⟨x, hx⟩ := H n (by omega)
    refine ⟨xs ++ [x], by simp [h1], fun i y hy => ?_⟩
    by_cases hi : i < n
    · rw [List.getElem?_append_left (by omega)] at hy
      exact h2 i y hy
    · have hlt := (List.getElem?_eq_some_iff.1 hy).1
      simp only [List.length_append, List.length_cons, List.length_nil, h1] at hlt
      have : i = n := by omega
      subst this
      rw [List.getElem?_append_right (by omega), h1] at hy
      simp at hy
      exact hy ▸ hx
section
variable {H : Type} {enc : TypeId × Value → H} {w : World} {base : Nat} {spare : Nat → Bool} {held : Bool}
theorem bytes_of (zs : List Int) (h : ∀ z ∈ zs, (Lit.int .u8 z).wf = true) : ∃ l : List UInt8, l.length = zs.length ∧ zs = l.map (fun b => (b.toNat : Int)) := by
  refine ⟨zs.map (fun z => UInt8.ofNat z.toNat), by simp, ?_⟩
  rw [List.map_map]
  conv => lhs; rw [← List.map_id zs]
  apply List.map_congr_left
  intro z hz
  have := bounds_u8 (h z hz)
  simp
  omega
theorem lits_bulk : ∀ ys : List Int, ys.length ≤ Rows.uptoBulkAll (lits (H := H) .u8 ys)
  | [] => Nat.zero_le _
  | y :: ys => by
    have h1 : Rows.uptoBulkAll (lits (H := H) .u8 (y :: ys)) = 1 + Rows.uptoBulkAll (lits (H := H) .u8 ys) := by simp [lits, Rows.uptoBulkAll, Rows.uptoBulk]
    have h2 := lits_bulk ys
    rw [h1, List.length_cons]
    omega
theorem bulk_le {d : DataW H} : ∀ {l : List (DataW H)}, d ∈ l → Rows.uptoBulk d ≤ Rows.uptoBulkAll l
  | [], h => by cases h
  | x :: l, h => by
    simp only [Rows.uptoBulkAll]
    rcases List.mem_cons.1 h with rfl | h
    · omega
    · have := bulk_le h; omega
theorem bulk_count : ∀ l : List (DataW H), l.length ≤ Rows.uptoBulkAll l
  | [] => Nat.zero_le _
  | x :: l => by
    have ih := bulk_count l
    have : 1 ≤ Rows.uptoBulk x := by
      cases x with
      | lit l => cases l <;> simp [Rows.uptoBulk]
      | _ => simp [Rows.uptoBulk]
    simp only [Rows.uptoBulkAll, List.length_cons]
    omega
theorem open_bytes_cell {fuel : Nat} {cs : List Value} {x : DataW H × List MemPlace} (hf : DataW.trod enc Try.prog w base spare held fuel 39 cs = some x) :
    ∃ (v : Value) (l : List UInt8), cs = [v] ∧ RB w.heap v l ∧ l.length + 1 ≤ Rows.uptoBulk x.1 := by
  rcases open_ints (P := Try.prog) (e := 5) (k := .u8) rfl rfl (by kernel_rfl) hf with ⟨hcs, hx⟩ | ⟨a, len, cap, zs, hcs, _, hl, hm, hz, hx, hcell, hwz⟩
  · subst hx
    exact ⟨_, [], hcs, ⟨rfl, .inl ⟨rfl, rfl⟩⟩, Nat.le_refl _⟩
  · have hzl : len ≤ zs.length := by rw [hz]; split <;> omega
    obtain ⟨m, h4, h5⟩ := bytes_of (zs.take len) (fun z hz => hwz z (List.mem_of_mem_take hz))
    have hlen : m.length = len := by rw [h4, List.length_take]; omega
    have hrd : rdA w.heap a (m.map u8v) := fun j u hj => by
      have hjl : j < len := by have := (List.getElem?_eq_some_iff.1 hj).1; simpa [hlen] using this
      have := hcell j (by omega)
      rw [cell_eq_rd] at this
      rw [this]
      rw [map_u8v, ← h5, List.getElem?_map, List.getElem?_take, if_pos hjl] at hj
      rw [← hj, List.getElem?_eq_getElem (show j < zs.length by omega), List.getD_eq_getElem?_getD, List.getElem?_eq_getElem (show j < zs.length by omega)]
      rfl
    refine ⟨_, m, hcs, ⟨by simp, .inr ⟨a, cap, by rw [hlen], by omega, hm, hrd⟩⟩, ?_⟩
    subst hx
    have h6 := lits_bulk (H := H) (zs.take len)
    simp only [Rows.uptoBulk]
    rw [List.length_take] at h6
    omega
theorem int_cell {P : Program} {t : TypeId} {k : IntKind} {fuel : Nat} {c : Value} {x : DataW H × List MemPlace} (ht : P.underlying t = some (.int k)) (hf : DataW.trod enc P w base spare held fuel t [c] = some x) : ∃ z : Int, c = .int k z ∧ x.1 = .lit (.int k z) ∧ (Lit.int k z).wf = true := by
  obtain ⟨z, h1, h2, h3⟩ := DataW.trod_int ht hf
  simp at h1
  exact ⟨z, h1, by rw [h2], h3⟩
theorem open_op_cells {fuel : Nat} {cs : List Value} {y : DataW H × List MemPlace} (hf : DataW.trod enc Try.prog w base spare held fuel 41 cs = some y) (hl : cs.length = 5) :
    ∃ (o : Opv) (kv : Value), cs = opC o kv ∧ RB w.heap kv o.ks ∧ o.ks.length + 1 ≤ Rows.uptoBulk y.1 := by
  obtain ⟨xs, n, _, hx, _, hlen, hfs⟩ := DataW.trod_struct (P := Try.prog) (t := 41) rfl hf
  have h0 := hfs 0 _ rfl
  have h1 := hfs 1 _ rfl
  have h2 := hfs 2 _ rfl
  have h3 := hfs 3 _ rfl
  have h4 := hfs 4 _ rfl
  match xs, hlen with
  | [y0, y1, y2, y3, y4], _ =>
    match cs, hl with
    | [c0, c1, c2, c3, c4], _ =>
      obtain ⟨z0, rfl, _, _⟩ := int_cell (P := Try.prog) (k := .i64) (c := c0) rfl h0
      obtain ⟨z1, rfl, _, _⟩ := int_cell (P := Try.prog) (k := .i64) (c := c1) rfl h1
      obtain ⟨z2, rfl, _, _⟩ := int_cell (P := Try.prog) (k := .i64) (c := c2) rfl h2
      obtain ⟨z3, rfl, _, w3⟩ := int_cell (P := Try.prog) (k := .u8) (c := c3) rfl h3
      obtain ⟨v, l, e4, r4, b4⟩ := open_bytes_cell h4
      have e4' : [c4] = [v] := e4
      simp only [List.cons.injEq, and_true] at e4'
      clear e4
      subst e4'
      have b3 := bounds_u8 w3
      refine ⟨⟨z0, z1, z2, UInt8.ofNat z3.toNat, l⟩, _, ?_, r4, ?_⟩
      · simp only [opC, u8v, List.cons.injEq, and_true, true_and]
        congr 1
        simp
        omega
      · rw [hx]
        simp only [List.map_cons, List.map_nil, Rows.uptoBulk, Rows.uptoBulkAll]
        show l.length + 1 ≤ _
        omega
theorem open_op {v : Value} {d : DataW H} {ps : List MemPlace} {r : Reach} {b0 : Nat} (hval : Value.okWide Try.prog w r b0 41 v) (hd : DataW.Trod enc Try.prog w base spare held 41 v d ps) :
    ∃ (o : Opv) (kv : Value), v = .agg (opC o kv).toArray ∧ RB w.heap kv o.ks ∧ o.ks.length ≤ Rows.uptoBulk d := by
  obtain ⟨cs, rfl, hsz⟩ := okWide_struct (P := Try.prog) (t := 41) rfl hval
  rw [show Try.prog.cellsOf 41 = 5 by kernel_rfl] at hsz
  obtain ⟨fuel, hf⟩ := hd
  obtain ⟨cl⟩ := cs
  obtain ⟨o, kv, h1, h2, h3⟩ := open_op_cells hf hsz
  exact ⟨o, kv, by rw [← h1]; rfl, h2, by simp only at h3; omega⟩
theorem open_given {v : Value} {d : DataW H} {ps : List MemPlace} {r : Reach} {b0 : Nat} (hval : Value.okWide Try.prog w r b0 23 v) (hd : DataW.Trod enc Try.prog w base spare held 23 v d ps) :
    ∃ (x y z : Int), v = .agg #[.int .i64 x, .int .i64 y, .int .i64 z] ∧ (Lit.int .i64 x).wf = true ∧ (Lit.int .i64 y).wf = true ∧ (Lit.int .i64 z).wf = true := by
  obtain ⟨cs, rfl, hsz⟩ := okWide_struct (P := Try.prog) (t := 23) rfl hval
  rw [show Try.prog.cellsOf 23 = 3 by kernel_rfl] at hsz
  obtain ⟨fuel, hf⟩ := hd
  obtain ⟨cl⟩ := cs
  obtain ⟨xs, n, _, hx, _, hlen, hfs⟩ := DataW.trod_struct (P := Try.prog) (t := 23) rfl hf
  have h0 := hfs 0 _ rfl
  have h1 := hfs 1 _ rfl
  have h2 := hfs 2 _ rfl
  match xs, hlen with
  | [y0, y1, y2], _ =>
    match cl, hsz with
    | [c0, c1, c2], _ =>
      obtain ⟨z0, rfl, _, w0⟩ := int_cell (P := Try.prog) (k := .i64) (c := c0) rfl h0
      obtain ⟨z1, rfl, _, w1⟩ := int_cell (P := Try.prog) (k := .i64) (c := c1) rfl h1
      obtain ⟨z2, rfl, _, w2⟩ := int_cell (P := Try.prog) (k := .i64) (c := c2) rfl h2
      exact ⟨z0, z1, z2, rfl, w0, w1, w2⟩
theorem open_ops {v : Value} {d : DataW H} {ps : List MemPlace} {r : Reach} {b0 : Nat} (hval : Value.okWide Try.prog w r b0 24 v) (hd : DataW.Trod enc Try.prog w base spare held 24 v d ps) (hb : Rows.uptoBulk d ≤ 10000000) :
    ∃ os : List (Opv × Value), RO w.heap v os ∧ os.length ≤ Rows.uptoBulk d := by
  obtain ⟨a0, len, cap, rfl⟩ := okWide_slice (P := Try.prog) (e := 41) rfl hval
  obtain ⟨fuel, hf⟩ := hd
  rcases DataW.trod_slice (P := Try.prog) (e := 41) rfl hf with ⟨hcs, hx⟩ | ⟨a, l, c, elems, rest, n, _, hcs, hx, _, hl, hm, hlen, hel, _, _⟩
  · simp [Value.cells] at hcs
    obtain ⟨rfl, rfl, rfl⟩ := hcs
    exact ⟨[], ⟨⟨rfl, .inl ⟨rfl, rfl⟩⟩, fun x hx => (by cases hx), by simp, fun x hx => (by cases hx)⟩, Nat.zero_le _⟩
  · simp [Value.cells] at hcs
    obtain ⟨rfl, rfl, rfl⟩ := hcs
    have hone : Try.prog.cellsOf 41 = 5 := by kernel_rfl
    injection hx with hx _
    subst hx
    have hbulk : Rows.uptoBulkAll (elems.map (·.1)) ≤ 10000000 := by simp only [Rows.uptoBulk] at hb; omega
    obtain ⟨xs, hxl, hxs⟩ := lists_of (fun i (y : Opv × Value) => (∀ k, k < 5 → rd w.heap (a.add (i * 5 + k)) = (opC y.1 y.2)[k]?) ∧ RB w.heap y.2 y.1.ks ∧ y.1.ks.length ≤ 10000000) len (fun i hi => by
      have h1 := hel i hi
      rw [List.getElem?_eq_getElem (show i < elems.length by omega), hone, Option.bind_eq_some_iff] at h1
      obtain ⟨cs, h2, h3⟩ := h1
      obtain ⟨_, h4, h5⟩ := World.cells?_some h2
      obtain ⟨o, kv, rfl, h6, h7⟩ := open_op_cells h3 h4
      refine ⟨(o, kv), fun k hk => ?_, h6, ?_⟩
      · have e0 := h5 k (by omega)
        rw [add_add, cell_eq_rd] at e0
        rw [e0]
      · have h8 : Rows.uptoBulk (elems[i]'(by omega)).1 ≤ Rows.uptoBulkAll (elems.map (·.1)) := bulk_le (List.mem_map.2 ⟨_, List.getElem_mem _, rfl⟩)
        show o.ks.length ≤ _
        omega)
    have hrd : rdA w.heap a (opsC xs) := fun j u hj => by
      have hjl := (List.getElem?_eq_some_iff.1 hj).1
      rw [opsC_length] at hjl
      have hi : j / 5 < xs.length := by omega
      have hy := List.getElem?_eq_getElem hi
      obtain ⟨r0, _⟩ := hxs (j / 5) _ hy
      have h1 := r0 (j % 5) (by omega)
      rw [show j / 5 * 5 + j % 5 = j by omega] at h1
      rw [h1]
      cases hu : (opC xs[j / 5].1 xs[j / 5].2)[j % 5]? with
      | none =>
        have := List.getElem?_eq_none_iff.1 hu
        simp [opC] at this
        omega
      | some u' =>
        have h2 := opsC_at hy (j % 5) u' hu
        rw [show j / 5 * 5 + j % 5 = j by omega] at h2
        rw [h2] at hj
        exact hj
    have hmem : ∀ x ∈ xs, RB w.heap x.2 x.1.ks ∧ x.1.ks.length ≤ 10000000 := fun x hx => by
      obtain ⟨i, hi, e⟩ := List.getElem_of_mem hx
      exact (hxs i x (by rw [List.getElem?_eq_getElem hi, e])).2
    have hc := bulk_count (elems.map (·.1))
    rw [List.length_map] at hc
    refine ⟨xs, ⟨⟨opsC_length xs, .inr ⟨a, cap, by rw [hxl], by omega, hm, hrd⟩⟩, fun x hx => (hmem x hx).1, by omega, fun x hx => (hmem x hx).2⟩, ?_⟩
    simp only [Rows.uptoBulk]
    omega
end
end Go.Proofs.Ytcmjgkjnnmfijaa
