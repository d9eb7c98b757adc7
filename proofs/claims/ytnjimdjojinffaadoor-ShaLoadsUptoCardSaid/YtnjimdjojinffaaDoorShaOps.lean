/-
  What the row says of a list of calls, and of a state.
-/
import Derived.Test.YtnjimdjojinffaaDoorShaParts
import Derived.Test.YtnjimdjojinffaaDoorShaTab
import Derived.Test.YtnjimdjojinffaaDoorShaLoad2
namespace Go.Proofs.YtnjimdjojinffaaDoor
open Go Vm
open Go.ChangeShapes Go.WideShapes Go.ChangeAt Go.RowKit
set_option maxRecDepth 100000
/-- a list of calls that is read, in blocks of D -/
structure OpsD (D : Nat → Prop) (h : Heap) (x : Value) (os : List (Int × List (List UInt8))) (cells : List Value) : Prop where
  src : Vm.Src h 2 x os.length cells
  out : os ≠ [] → ∀ b, ob x b → D b
  part : ∀ (i : Nat) (o : Int × List (List UInt8)), os[i]? = some o → ∃ v pv, cells[i * 2]? = some (.int .i64 o.1) ∧ cells[i * 2 + 1]? = some v ∧ PD D h v o.2 pv
theorem OpsD.keep {D S : Nat → Prop} {h h' : Heap} {x : Value} {os : List (Int × List (List UInt8))} {cells : List Value} (H : OpsD D h x os cells) (c : Chg S h h') (hD : ∀ b, D b → ¬ S b) : OpsD D h' x os cells := by
  refine ⟨Src.keep0 H.src c (fun hx b hb => hD b (H.out (fun e => hx ?_) b hb)), H.out, fun i o hi => ?_⟩
  · subst e
    have := H.src.1
    exact List.eq_nil_of_length_eq_zero (by simpa using this)
  · obtain ⟨v, pv, h1, h2, h3⟩ := H.part i o hi
    exact ⟨v, pv, h1, h2, h3.keep c hD⟩
theorem OpsD.fix {D : Nat → Prop} {h : Heap} {x : Value} {os : List (Int × List (List UInt8))} {cells : List Value} (H : OpsD D h x os cells) : ∃ a c, x = .slice a os.length c ∧ os.length ≤ maxLen := by
  rcases H.src.2 with ⟨rfl, h0⟩ | ⟨A, cap, rfl, hc, hm, _⟩
  · exact ⟨none, 0, by rw [h0], by rw [h0]; exact Nat.zero_le _⟩
  · exact ⟨some A, cap, rfl, by omega⟩
theorem OpsD.row {D : Nat → Prop} {h : Heap} {a : Option Addr} {n c : Nat} {os : List (Int × List (List UInt8))} {cells : List Value} (H : OpsD D h (.slice a n c) os cells) (t : Nat) (hlt : t < os.length) :
    ∃ b o d ms v pv, a = some ⟨b, o, none⟩ ∧ os[t]? = some (d, ms) ∧ rdN h b (o + t * 2) [.int .i64 d, v] ∧ PD D h v ms pv := by
  obtain ⟨v, pv, h1, h2, h3⟩ := H.part t os[t] (List.getElem?_eq_getElem hlt)
  rcases H.src.2 with ⟨h4, h5⟩ | ⟨A, cap, h4, hc, hm, hr⟩
  · omega
  · injection h4 with h4
    have hs := hr.spot (by intro e; subst e; simp at h1)
    rw [hs, rdA_plain] at hr
    refine ⟨A.block, A.off, os[t].1, os[t].2, v, pv, by rw [← hs]; exact h4, List.getElem?_eq_getElem hlt, ?_, h3⟩
    intro j w hj
    match j, hj with
    | 0, hj => simp at hj; subst hj; have := hr (t * 2) _ h1; simpa using this
    | 1, hj => simp at hj; subst hj; have := hr (t * 2 + 1) _ h2; simpa [Nat.add_assoc] using this
section
variable {H : Type} {enc : TypeId × Value → H} {w : World} {base : Nat} {spare : Nat → Bool} {held : Bool}
theorem bulk_le {d : DataW H} : ∀ {l : List (DataW H)}, d ∈ l → Rows.uptoBulk d ≤ Rows.uptoBulkAll l
  | [], h => by cases h
  | x :: l, h => by
    simp only [Rows.uptoBulkAll]
    rcases List.mem_cons.1 h with rfl | h
    · omega
    · have := bulk_le h; omega
theorem open_op_cell {fuel : Nat} {cs : List Value} {y : DataW H × List MemPlace} (hf : DataW.trod enc Tryd.prog w base spare held fuel 51 cs = some y) (hl : cs.length = 2) :
    ∃ (d : Int) (v : Value) (ms : List (List UInt8)) (pv : List Value), cs = [.int .i64 d, v] ∧ PD (fun b => b < w.heap.size) w.heap v ms pv ∧ ms.flatten.length + ms.length + 1 ≤ Rows.uptoBulk y.1 := by
  obtain ⟨y0, y1, n, hx, _, h0, h1⟩ := trod_struct2 (P := Tryd.prog) (t := 51) rfl hf
  match cs, hl with
  | [c0, c1], _ =>
    rw [show Tryd.prog.cellsOf 3 = 1 by kernel_rfl] at h0
    rw [show Tryd.prog.cellsOf 28 = 1 by kernel_rfl] at h1
    obtain ⟨z, h2, _, _⟩ := DataW.trod_int (P := Tryd.prog) (k := .i64) rfl h0
    obtain ⟨v, ms, pv, h3, h4, h5⟩ := open_parts_cell h1
    simp at h2 h3
    subst h2 h3
    refine ⟨z, _, ms, pv, rfl, h4, ?_⟩
    rw [hx]
    simp only [Rows.uptoBulk, Rows.uptoBulkAll]
    omega
theorem open_ops {v : Value} {d : DataW H} {ps : List MemPlace} {r : Reach} {b0 : Nat} (hval : Value.okWide Tryd.prog w r b0 36 v) (hd : DataW.Trod enc Tryd.prog w base spare held 36 v d ps) :
    ∃ (os : List (Int × List (List UInt8))) (cells : List Value), OpsD (fun b => b < w.heap.size) w.heap v os cells ∧ os.length ≤ Rows.uptoBulk d ∧ ∀ (i : Nat) (o : Int × List (List UInt8)), os[i]? = some o → o.2.flatten.length + o.2.length ≤ Rows.uptoBulk d := by
  obtain ⟨a0, len, cap, rfl⟩ := okWide_slice (P := Tryd.prog) (e := 51) rfl hval
  obtain ⟨fuel, hf⟩ := hd
  rcases DataW.trod_slice (P := Tryd.prog) (e := 51) rfl hf with ⟨hcs, hx⟩ | ⟨a, l, c, elems, rest, n, _, hcs, hx, _, hl, hm, hlen, hel, _, _⟩
  · simp [Value.cells] at hcs
    obtain ⟨rfl, rfl, rfl⟩ := hcs
    exact ⟨[], [], ⟨⟨by simp, .inl ⟨rfl, rfl⟩⟩, fun e => absurd rfl e, fun i o hi => by simp at hi⟩, Nat.zero_le _, fun i o hi => by simp at hi⟩
  · simp [Value.cells] at hcs
    obtain ⟨rfl, rfl, rfl⟩ := hcs
    have hone : Tryd.prog.cellsOf 51 = 2 := by kernel_rfl
    obtain ⟨xs, hxl, hxs⟩ := lists_of (fun i (y : (Int × List (List UInt8)) × Value) => rd w.heap (a.add (i * 2)) = some (.int .i64 y.1.1) ∧ rd w.heap (a.add (i * 2 + 1)) = some y.2 ∧ (∃ pv, PD (fun b => b < w.heap.size) w.heap y.2 y.1.2 pv) ∧
        ∀ e, elems[i]? = some e → y.1.2.flatten.length + y.1.2.length + 1 ≤ Rows.uptoBulk e.1) len (fun i hi => by
      have h1 := hel i hi
      rw [List.getElem?_eq_getElem (show i < elems.length by omega), hone, Option.bind_eq_some_iff] at h1
      obtain ⟨cs, h2, h3⟩ := h1
      obtain ⟨_, h4, h5⟩ := World.cells?_some h2
      obtain ⟨d, v, ms, pv, rfl, h6, h7⟩ := open_op_cell h3 h4
      have e0 := h5 0 (by omega)
      have e1 := h5 1 (by omega)
      rw [add_add, Nat.add_zero, cell_eq_rd] at e0
      rw [add_add, cell_eq_rd] at e1
      refine ⟨((d, ms), v), e0, e1, ⟨pv, h6⟩, fun e he => ?_⟩
      rw [List.getElem?_eq_getElem (show i < elems.length by omega)] at he
      injection he with he
      rw [← he]; exact h7)
    have hcell : ∀ (xs : List ((Int × List (List UInt8)) × Value)) (i : Nat) (y : (Int × List (List UInt8)) × Value), xs[i]? = some y → (xs.flatMap fun y => [Value.int .i64 y.1.1, y.2])[i * 2]? = some (.int .i64 y.1.1) ∧ (xs.flatMap fun y => [Value.int .i64 y.1.1, y.2])[i * 2 + 1]? = some y.2 := by
      intro xs
      induction xs with
      | nil => intro i y h; simp at h
      | cons x xs ih =>
        intro i y h
        cases i with
        | zero => simp at h; subst h; simp
        | succ i =>
          have := ih i y (by simpa using h)
          rw [List.flatMap_cons, show (i + 1) * 2 = i * 2 + 2 by omega]
          exact ⟨by simpa using this.1, by simpa [Nat.add_assoc] using this.2⟩
    have hflen : ∀ xs : List ((Int × List (List UInt8)) × Value), (xs.flatMap fun y => [Value.int .i64 y.1.1, y.2]).length = xs.length * 2 := by
      intro xs
      induction xs with
      | nil => rfl
      | cons x xs ih => rw [List.flatMap_cons, List.length_append, ih]; simp; omega
    have hrd : rdA w.heap a (xs.flatMap fun y => [Value.int .i64 y.1.1, y.2]) := fun j u hj => by
      have hjl := (List.getElem?_eq_some_iff.1 hj).1
      rw [hflen] at hjl
      have hi : j / 2 < xs.length := by omega
      have hy := List.getElem?_eq_getElem hi
      obtain ⟨c0, c1⟩ := hcell xs (j / 2) _ hy
      obtain ⟨r0, r1, _⟩ := hxs (j / 2) _ hy
      by_cases he : j % 2 = 0
      · rw [show j = j / 2 * 2 by omega] at hj ⊢
        rw [c0] at hj
        injection hj with hj
        rw [← hj]; exact r0
      · rw [show j = j / 2 * 2 + 1 by omega] at hj ⊢
        rw [c1] at hj
        injection hj with hj
        rw [← hj]; exact r1
    have hbulk : ∀ (i : Nat) (o : Int × List (List UInt8)), (xs.map (·.1))[i]? = some o → o.2.flatten.length + o.2.length + 1 ≤ Rows.uptoBulkAll (elems.map (·.1)) := fun i o hi => by
      rw [List.getElem?_map] at hi
      cases hy : xs[i]? with
      | none => rw [hy] at hi; simp at hi
      | some y =>
        rw [hy] at hi
        simp at hi
        have hil := (List.getElem?_eq_some_iff.1 hy).1
        have h1 := (hxs i y hy).2.2.2 _ (List.getElem?_eq_getElem (show i < elems.length by omega))
        have h2 : Rows.uptoBulk (elems[i]'(by omega)).1 ≤ Rows.uptoBulkAll (elems.map (·.1)) := bulk_le (List.mem_map.2 ⟨_, List.getElem_mem _, rfl⟩)
        rw [← hi]
        omega
    have hcount : ∀ l : List (DataW H), l.length ≤ Rows.uptoBulkAll l := by
      intro l
      induction l with
      | nil => exact Nat.zero_le _
      | cons x l ih =>
        have : 1 ≤ Rows.uptoBulk x := by
          cases x with
          | lit l => cases l <;> simp [Rows.uptoBulk]
          | _ => simp [Rows.uptoBulk]
        simp only [Rows.uptoBulkAll, List.length_cons]
        omega
    injection hx with hx _
    subst hx
    refine ⟨xs.map (·.1), xs.flatMap fun y => [Value.int .i64 y.1.1, y.2], ⟨⟨by rw [hflen, List.length_map], .inr ⟨a, cap, by simp [hxl], by simp [hxl]; omega, hm, hrd⟩⟩, fun hne b hb => ?_, fun i o hi => ?_⟩, ?_, fun i o hi => ?_⟩
    · obtain ⟨o', n', c', hb⟩ := hb
      injection hb with hb
      injection hb with hb
      subst hb
      cases xs with
      | nil => exact absurd rfl hne
      | cons y ys => exact rd_lt (rdA_plain.1 hrd 0 _ rfl)
    · rw [List.getElem?_map] at hi
      cases hy : xs[i]? with
      | none => rw [hy] at hi; simp at hi
      | some y =>
        rw [hy] at hi
        simp at hi
        obtain ⟨c0, c1⟩ := hcell xs i y hy
        obtain ⟨_, _, ⟨pv, hp⟩, _⟩ := hxs i y hy
        subst hi
        exact ⟨y.2, pv, c0, c1, hp⟩
    · have := hcount (elems.map (·.1))
      simp only [Rows.uptoBulk, List.length_map] at *
      omega
    · have := hbulk i o hi
      simp only [Rows.uptoBulk]
      omega
theorem open_arr_cells {t e : TypeId} {n : Nat} {k : IntKind} {fuel : Nat} {cs : List Value} {y : DataW H × List MemPlace} (ht : Tryd.prog.underlying t = some (.array n e)) (he : Tryd.prog.underlying e = some (.int k)) (hc : Tryd.prog.cellsOf e = 1) (hct : Tryd.prog.cellsOf t = n)
    (hf : DataW.trod enc Tryd.prog w base spare held fuel t cs = some y) : ∃ zs : List Int, zs.length = n ∧ cs = zs.map (Value.int k) ∧ ∀ z ∈ zs, (Lit.int k z).wf = true := by
  obtain ⟨xs, m, _, _, hlen, hxs, hall⟩ := DataW.trod_array ht hf
  rw [hct] at hlen
  have key : ∀ i, i < n → ∃ z, cs[i]? = some (.int k z) ∧ (Lit.int k z).wf = true := fun i hi => by
    have h1 := hall i hi
    rw [hc, Nat.mul_one, List.getElem?_eq_getElem (show i < xs.length by omega)] at h1
    obtain ⟨z, h2, _, h3⟩ := DataW.trod_int he h1
    refine ⟨z, ?_, h3⟩
    have h4 := congrArg (fun l => l[0]?) h2
    simpa [List.getElem?_take, List.getElem?_drop] using h4
  refine ⟨cs.map (fun v => intOf v), by simp; omega, ?_, ?_⟩
  · refine List.ext_getElem? fun i => ?_
    by_cases hi : i < n
    · obtain ⟨z, h1, _⟩ := key i hi
      rw [List.map_map]
      simp only [List.getElem?_map, h1]
      rfl
    · rw [List.getElem?_eq_none (by omega), List.getElem?_eq_none (by simp; omega)]
  · intro z hz
    obtain ⟨v, hv, rfl⟩ := List.mem_map.1 hz
    obtain ⟨i, hi, rfl⟩ := List.getElem_of_mem hv
    obtain ⟨z, h1, h2⟩ := key i (by omega)
    rw [List.getElem?_eq_getElem hi] at h1
    injection h1 with h1
    rw [h1]
    exact h2
theorem open_state {v : Value} {d : DataW H} {ps : List MemPlace} {r : Reach} {b0 : Nat} (hval : Value.okWide Tryd.prog w r b0 43 v) (hd : DataW.Trod enc Tryd.prog w base spare held 43 v d ps) :
    ∃ (s : Sha.S8) (b : Value) (l : List UInt8) (n : Nat), v = .agg (stateC s b n).toArray ∧ RD (fun b => b < w.heap.size) w.heap b l ∧ n < 18446744073709551616 ∧ l.length ≤ Rows.uptoBulk d := by
  obtain ⟨cs, rfl, hsz⟩ := okWide_struct (P := Tryd.prog) (t := 43) rfl hval
  rw [show Tryd.prog.cellsOf 43 = 10 by kernel_rfl] at hsz
  obtain ⟨fuel, hf⟩ := hd
  obtain ⟨xs, n, _, hx, hl, hlen, hfs⟩ := DataW.trod_struct (P := Tryd.prog) (t := 43) rfl hf
  obtain ⟨cl⟩ := cs
  have h0 := hfs 0 _ rfl
  have h1 := hfs 1 _ rfl
  have h2 := hfs 2 _ rfl
  match xs, hlen with
  | [y0, y1, y2], _ =>
    obtain ⟨zs, z1, z2, z3⟩ := open_arr_cells (n := 8) (e := 22) (k := .u32) rfl rfl (by kernel_rfl) (by kernel_rfl) h0
    obtain ⟨b, l, b1, b2, b3⟩ := open_bytes_cell h1
    obtain ⟨nn, n1, _, n3⟩ := DataW.trod_int (P := Tryd.prog) (k := .u64) rfl h2
    have hb := bounds_u64 n3
    obtain ⟨ws, w1, w2⟩ := words_of zs z3
    simp only [Value.cells] at z2 b1 n1
    match cl, hsz, ws, w1.trans z1 with
    | [c0, c1, c2, c3, c4, c5, c6, c7, c8, c9], _, [a0, a1, a2, a3, a4, a5, a6, a7], _ =>
      rw [w2] at z2
      have q2 : [c0, c1, c2, c3, c4, c5, c6, c7] = [u32v a0, u32v a1, u32v a2, u32v a3, u32v a4, u32v a5, u32v a6, u32v a7] := z2
      have q1 : [c8] = [b] := b1
      have q0 : [c9] = [Value.int .u64 nn] := n1
      simp only [List.cons.injEq, and_true] at q2 q1 q0
      clear z2 b1 n1
      obtain ⟨rfl, rfl, rfl, rfl, rfl, rfl, rfl, rfl⟩ := q2
      subst q1 q0
      obtain ⟨N, rfl⟩ : ∃ N : Nat, nn = N := ⟨nn.toNat, by omega⟩
      refine ⟨⟨a0, a1, a2, a3, a4, a5, a6, a7⟩, _, l, N, rfl, b2, by omega, ?_⟩
      simp only [Prod.mk.injEq] at hx
      rw [hx.1]
      simp only [List.map_cons, List.map_nil, Rows.uptoBulk, Rows.uptoBulkAll]
      omega
end
end Go.Proofs.YtnjimdjojinffaaDoor
