/-
  What the row of ToolFlags says: the words, the tool, the package variables that the library reads.
-/
import Derived.Test.YtgecapllodgdeaaGreatDoorCards
import Derived.Test.YtgecapllodgdeaaGreatDoorTie
import Derived.Test.YtgecapllodgdeaaGreatDoorTfLaw
import Derived.Test.YtgecapllodgdeaaGreatDoorShaOpen
import Derived.Test.YtgecapllodgdeaaGreatDoorShaParts
import Derived.SliceStrings
import Derived.Deep.DeepHandedRow
import Derived.Lib.LaidTab
import Derived.Stop.LaidErr
import Derived.Shelf.Vars
import Derived.LaidMore
import Derived.LaidOnce
import Derived.MakeChecks
namespace Go.Proofs.YtgecapllodgdeaaGreatDoor
open Go Vm
open Go.ChangeShapes Go.WideShapes Go.ChangeAt Go.RowKit
set_option maxRecDepth 100000
namespace TfRow
def zs64 : List Int := [1116352408, 1899447441, 3049323471, 3921009573, 961987163, 1508970993, 2453635748, 2870763221, 3624381080, 310598401, 607225278, 1426881987, 1925078388, 2162078206, 2614888103, 3248222580, 3835390401, 4022224774, 264347078, 604807628, 770255983, 1249150122, 1555081692, 1996064986, 2554220882, 2821834349, 2952996808, 3210313671, 3336571891, 3584528711, 113926993, 338241895, 666307205, 773529912, 1294757372, 1396182291, 1695183700, 1986661051, 2177026350, 2456956037, 2730485921, 2820302411, 3259730800, 3345764771, 3516065817, 3600352804, 4094571909, 275423344, 430227734, 506948616, 659060556, 883997877, 958139571, 1322822218, 1537002063, 1747873779, 1955562222, 2024104815, 2227730452, 2361852424, 2428436474, 2756734187, 3204031479, 3329325298]
theorem zs64_eq : zs64.map (Value.int .u32) = Sha.K.map u32v := by kernel_rfl
theorem gTab : Tryz.prog.globalNamed "treadle/treadleref02.constants" = some 4 := by kernel_rfl
theorem gTabType : (Tryz.prog.globals[4]?).map (·.type) = some 250 := by kernel_rfl
theorem gPow : Tryz.prog.globalNamed "internal/strconv.uint64pow10" = some 3 := by kernel_rfl
theorem gPowType : (Tryz.prog.globals[3]?).map (·.type) = some 241 := by kernel_rfl
theorem gES : Tryz.prog.globalNamed "strconv.ErrSyntax" = some 1 := by kernel_rfl
theorem gESType : (Tryz.prog.globals[1]?).map (·.type) = some 61 := by kernel_rfl
theorem gER : Tryz.prog.globalNamed "strconv.ErrRange" = some 2 := by kernel_rfl
theorem gERType : (Tryz.prog.globals[2]?).map (·.type) = some 61 := by kernel_rfl
theorem star : "*" ++ "errors.errorString" = "*errors.errorString" := by decide
theorem rowErr (u : TypeId) (h : Tryz.prog.typeName? 3 u = some "*errors.errorString") : u = 237 :=
  typeName_ptr_named (nm := "errors.errorString") (by rw [star]; kernel_rfl) (by kernel_rfl) (by decide) u (by rw [star]; exact h)
theorem laid_plain : laidMetH Tryz.prog Rows.toolFlagsUptoRow.laid = laidMet Tryz.prog Rows.toolFlagsUptoRow.laid := funext fun w => Go.MakeChecks.laidMetH_plain _ _ w (by kernel_rfl)
theorem sentinel_cell {n : String} {text : List UInt8} {r : List (String × DataW Unit)} {W : World} {g : Nat} (h : laidMet Tryz.prog ((n, .iface "*errors.errorString" (.ptr (.agg [.lit (.string text)]))) :: r) W)
    (hg : Tryz.prog.globalNamed n = some g) (ht : (Tryz.prog.globals[g]?).map (·.type) = some 61) : ∃ t p, rd W.heap ⟨g, 0, none⟩ = some (.iface t p) := by
  obtain ⟨a0, s0, hv0, -, -, -⟩ := laid_sentinel h hg ht Tryz.underlying61 rowErr Tryz.underlying237 Tryz.underlying239 rfl rfl Tryz.underlying9 (by kernel_rfl) (by kernel_rfl)
  have h0 := World.var?_cell hg hv0 0
  rw [cell_eq_rd] at h0
  exact ⟨_, _, by rw [h0]; rfl⟩
/-- what the row lays is what the library reads -/
theorem gl_of {W : World} (hL : laidMetH Tryz.prog Rows.toolFlagsUptoRow.laid W) (hsh : W.ShapedOpen Tryz.prog) : Gl W.heap := by
  rw [laid_plain] at hL
  have hp := hL.tail.tail
  have hc := hp.tail
  have hr := hc.tail
  have hs := hr.tail
  refine ⟨?_, ?_, ?_, ?_, ?_⟩
  · obtain ⟨m, hm⟩ := cell_of_shapedOpen_int (P := Tryz.prog) (g := 0) (zero := #[.int .i64 0]) (t := 3) hsh (of_decide_eq_true (by kernel_rfl)) (by kernel_rfl) rfl (by kernel_rfl) (by kernel_rfl) Tryz.underlying3
    rw [cell_eq_rd] at hm
    exact ⟨m, hm⟩
  · have ht : Lib.TabIs Tryz.prog W "treadle/treadleref02.constants" .u32 zs64 := Lib.tabIs_of_head gTab gTabType (t := 250) (e := 173) (n := 64) rfl rfl (by kernel_rfl) (by kernel_rfl) hc
    intro j v hj
    have hl : j < 64 := by have := (List.getElem?_eq_some_iff.1 hj).1; simpa [Sha.K] using this
    have := ht.cell gTab j hl
    rw [cell_eq_rd] at this
    rw [← zs64_eq, List.getElem?_map, List.getElem?_eq_getElem (show j < zs64.length from hl)] at hj
    rw [Nat.zero_add, this, ← hj, List.getD_eq_getElem?_getD, List.getElem?_eq_getElem (show j < zs64.length from hl)]
    rfl
  · have ht : Lib.TabIs Tryz.prog W "internal/strconv.uint64pow10" .u64 Lib.pow10Tab := Lib.tabIs_of_head gPow gPowType (t := 241) (e := 78) (n := 20) rfl rfl (by kernel_rfl) (by kernel_rfl) hp
    unfold Lib.TabIs World.var? at ht
    rw [gPow] at ht
    simp only [Option.bind_some] at ht
    split at ht
    · rename_i cs t f h4
      injection ht with ht
      exact ⟨t, f, by rw [h4, ht]⟩
    · cases ht
  · exact sentinel_cell hs gES gESType
  · exact sentinel_cell hr gER gERType
section
variable {H : Type} {enc : TypeId × Value → H} {w : World} {base : Nat} {spare : Nat → Bool} {held : Bool}
theorem int_cell {P : Program} {t : TypeId} {k : IntKind} {fuel : Nat} {c : Value} {x : DataW H × List MemPlace} (ht : P.underlying t = some (.int k)) (hf : DataW.trod enc P w base spare held fuel t [c] = some x) : ∃ z : Int, c = .int k z ∧ x.1 = .lit (.int k z) ∧ (Lit.int k z).wf = true := by
  obtain ⟨z, h1, h2, h3⟩ := DataW.trod_int ht hf
  simp at h1
  exact ⟨z, h1, by rw [h2], h3⟩
theorem strs_bulk : ∀ ss : List ByteArray, ss.length + (ss.map (·.size)).sum ≤ Rows.uptoBulkAll (strs (H := H) ss)
  | [] => Nat.zero_le _
  | y :: ys => by
    have h1 : Rows.uptoBulkAll (strs (H := H) (y :: ys)) = (y.size + 1) + Rows.uptoBulkAll (strs (H := H) ys) := by simp [strs, Rows.uptoBulkAll, Rows.uptoBulk]
    have h2 := strs_bulk ys
    rw [h1, List.length_cons, List.map_cons, List.sum_cons]
    omega
theorem size_le_sum {ss : List ByteArray} {s : ByteArray} (h : s ∈ ss) : s.size ≤ (ss.map (·.size)).sum := by
  induction ss with
  | nil => cases h
  | cons y ys ih =>
    rw [List.map_cons, List.sum_cons]
    rcases List.mem_cons.1 h with rfl | h
    · omega
    · have := ih h; omega
/-- words that came in -/
theorem open_words {v : Value} {d : DataW H} {ps : List MemPlace} {r : Reach} {b0 : Nat} (hval : Value.okWide Tryz.prog w r b0 22 v) (hd : DataW.Trod enc Tryz.prog w base spare held 22 v d ps) :
    ∃ l : List (List UInt8), RT w.heap v l ∧ l.length ≤ Rows.uptoBulk d ∧ ∀ s ∈ l, s.length ≤ Rows.uptoBulk d := by
  obtain ⟨a0, len, cap, rfl⟩ := okWide_slice (P := Tryz.prog) (e := 9) rfl hval
  obtain ⟨fuel, hf⟩ := hd
  rcases open_strings (P := Tryz.prog) (e := 9) rfl rfl (by kernel_rfl) hf with ⟨hcs, _⟩ | ⟨a, l, c, ss, hcs, _, hl, hm, hz, hx, hcell, hwz⟩
  · simp [Value.cells] at hcs
    obtain ⟨rfl, rfl, rfl⟩ := hcs
    exact ⟨[], ⟨rfl, .inl ⟨rfl, rfl⟩⟩, Nat.zero_le _, fun s hs => by cases hs⟩
  · simp [Value.cells] at hcs
    obtain ⟨rfl, rfl, rfl⟩ := hcs
    have hzl : len ≤ ss.length := by rw [hz]; split <;> omega
    have hlen : (ss.take len).length = len := by rw [List.length_take]; omega
    have hb := strs_bulk (H := H) (ss.take len)
    injection hx with hx
    subst hx
    simp only [Rows.uptoBulk]
    refine ⟨(ss.take len).map fun s => s.data.toList, ⟨by simp, .inr ⟨a, cap, by simp only [List.length_map, hlen], by simp only [List.length_map, hlen]; omega, hm, ?_⟩⟩, ?_, ?_⟩
    · intro j u hj
      have hjl : j < len := by have := (List.getElem?_eq_some_iff.1 hj).1; simp at this; omega
      have := hcell j (by omega)
      rw [cell_eq_rd] at this
      rw [this, ← hj, List.map_map, List.getElem?_map, List.getElem?_take, if_pos hjl, List.getElem?_eq_getElem (show j < ss.length by omega), List.getD_eq_getElem?_getD, List.getElem?_eq_getElem (show j < ss.length by omega)]
      simp [strv, bs]
    · rw [List.length_map]; omega
    · intro s hs
      obtain ⟨y, hy, rfl⟩ := List.mem_map.1 hs
      have := size_le_sum hy
      have e : y.data.toList.length = y.size := by cases y; rfl
      rw [e]; omega
theorem open_tool {v : Value} {d : DataW H} {ps : List MemPlace} {r : Reach} {b0 : Nat} (hval : Value.okWide Tryz.prog w r b0 24 v) (hd : DataW.Trod enc Tryz.prog w base spare held 24 v d ps) :
    ∃ t : Tl, v = .agg (tlC t).toArray ∧ Tl64 t := by
  obtain ⟨cs, rfl, hsz⟩ := okWide_struct (P := Tryz.prog) (t := 24) rfl hval
  rw [show Tryz.prog.cellsOf 24 = 3 by kernel_rfl] at hsz
  obtain ⟨fuel, hf⟩ := hd
  obtain ⟨cl⟩ := cs
  obtain ⟨xs, n, _, hx, _, hlen, hfs⟩ := DataW.trod_struct (P := Tryz.prog) (t := 24) rfl hf
  have h0 := hfs 0 _ rfl
  have h1 := hfs 1 _ rfl
  have h2 := hfs 2 _ rfl
  match xs, hlen with
  | [y0, y1, y2], _ =>
    match cl, hsz with
    | [c0, c1, c2], _ =>
      obtain ⟨z0, rfl, _, w0⟩ := int_cell (P := Tryz.prog) (k := .i64) (c := c0) rfl h0
      obtain ⟨z1, rfl, _, w1⟩ := int_cell (P := Tryz.prog) (k := .i64) (c := c1) rfl h1
      obtain ⟨z2, rfl, _, w2⟩ := int_cell (P := Tryz.prog) (k := .i64) (c := c2) rfl h2
      exact ⟨⟨z0, z1, z2⟩, rfl, bounds_i64 w0, bounds_i64 w1, bounds_i64 w2⟩
end
/-- a world for the witnesses -/
noncomputable def laidWorld (os : Os) : World := World.doorLaid Tryz.prog 67 os
end TfRow
end Go.Proofs.YtgecapllodgdeaaGreatDoor
