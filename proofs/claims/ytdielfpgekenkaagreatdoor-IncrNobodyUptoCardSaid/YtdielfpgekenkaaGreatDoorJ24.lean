/-
  What the row of IncrNobody says: the table of the document's hash; a request.
-/
import Derived.Test.YtdielfpgekenkaaGreatDoorCards
import Derived.Test.YtdielfpgekenkaaGreatDoorJ6
import Derived.Test.YtdielfpgekenkaaGreatDoorJ23
import Derived.Test.YtdielfpgekenkaaGreatDoorJ18
import Derived.SliceStrings
import Derived.ChangeSame
import Derived.ChangeMaps
import Derived.Deep.DeepHandedRow
import Derived.Lib.LaidTab
import Derived.Stop.LaidErr
import Derived.Shelf.Vars
import Derived.LaidMore
import Derived.LaidOnce
import Derived.MakeChecks
import Derived.Lay
namespace Go.Proofs.YtdielfpgekenkaaGreatDoor
open Go Vm
open Go.ChangeShapes Go.WideShapes Go.ChangeAt Go.RowKit
set_option maxRecDepth 100000
set_option linter.unusedVariables false
set_option linter.unusedSimpArgs false
namespace IcRow
def zs64 : List Int := [1116352408, 1899447441, 3049323471, 3921009573, 961987163, 1508970993, 2453635748, 2870763221, 3624381080, 310598401, 607225278, 1426881987, 1925078388, 2162078206, 2614888103, 3248222580, 3835390401, 4022224774, 264347078, 604807628, 770255983, 1249150122, 1555081692, 1996064986, 2554220882, 2821834349, 2952996808, 3210313671, 3336571891, 3584528711, 113926993, 338241895, 666307205, 773529912, 1294757372, 1396182291, 1695183700, 1986661051, 2177026350, 2456956037, 2730485921, 2820302411, 3259730800, 3345764771, 3516065817, 3600352804, 4094571909, 275423344, 430227734, 506948616, 659060556, 883997877, 958139571, 1322822218, 1537002063, 1747873779, 1955562222, 2024104815, 2227730452, 2361852424, 2428436474, 2756734187, 3204031479, 3329325298]
theorem zs64_eq : zs64.map (Value.int .u32) = Sha.K.map u32v := by kernel_rfl
theorem gTab : Tryz.prog.globalNamed "treadle/treadleref02.constants" = some 1 := by kernel_rfl
theorem gTabType : (Tryz.prog.globals[1]?).map (·.type) = some 770 := by kernel_rfl
theorem laid_plain : laidMetH Tryz.prog Rows.incrNobodyUptoRow.laid = laidMet Tryz.prog Rows.incrNobodyUptoRow.laid := funext fun w => Go.MakeChecks.laidMetH_plain _ _ w (by kernel_rfl)
theorem tab_of {W : World} (hL : laidMetH Tryz.prog Rows.incrNobodyUptoRow.laid W) : Tab W.heap := by
  rw [laid_plain] at hL
  have hL := (laidMet.tail (laidMet.tail (laidMet.tail (laidMet.tail (laidMet.tail (laidMet.tail (laidMet.tail hL)))))))
  have ht : Lib.TabIs Tryz.prog W "treadle/treadleref02.constants" .u32 zs64 := Lib.tabIs_of_head gTab gTabType (t := 770) (e := 561) (n := 64) rfl rfl (by kernel_rfl) (by kernel_rfl) hL
  intro j v hj
  have hl : j < 64 := by have := (List.getElem?_eq_some_iff.1 hj).1; simpa [Sha.K] using this
  have := ht.cell gTab j hl
  rw [cell_eq_rd] at this
  rw [← zs64_eq, List.getElem?_map, List.getElem?_eq_getElem (show j < zs64.length from hl)] at hj
  rw [Nat.zero_add, this, ← hj, List.getD_eq_getElem?_getD, List.getElem?_eq_getElem (show j < zs64.length from hl)]
  rfl
theorem int_cell {H : Type} {enc : TypeId × Value → H} {w : World} {base : Nat} {spare : Nat → Bool} {held : Bool} {P : Program} {t : TypeId} {k : IntKind} {fuel : Nat} {c : Value} {x : DataW H × List MemPlace} (ht : P.underlying t = some (.int k)) (hf : DataW.trod enc P w base spare held fuel t [c] = some x) : ∃ z : Int, c = .int k z ∧ x.1 = .lit (.int k z) ∧ (Lit.int k z).wf = true := by
  obtain ⟨z, h1, h2, h3⟩ := DataW.trod_int ht hf
  simp at h1
  exact ⟨z, h1, by rw [h2], h3⟩
section
variable {H : Type} {enc : TypeId × Value → H} {w : World} {base : Nat} {spare : Nat → Bool} {held : Bool}
theorem slice_cell {t e : TypeId} (ht : Tryz.prog.underlying t = some (.slice e)) {fuel : Nat} {c : Value} {x : DataW H × List MemPlace} (hf : DataW.trod enc Tryz.prog w base spare held fuel t [c] = some x) : c.oneCell' = true := by
  rcases DataW.trod_slice (P := Tryz.prog) (e := e) ht hf with ⟨hcs, _⟩ | ⟨a, l, cp, elems, rest, n, _, hcs, _⟩
  · simp only [List.cons.injEq, and_true] at hcs
    subst hcs
    rfl
  · simp only [List.cons.injEq, and_true] at hcs
    subst hcs
    rfl
theorem open_ask {v : Value} {d : DataW H} {ps : List MemPlace} {r : Reach} {b0 : Nat} (hval : Value.okWide Tryz.prog w r b0 27 v) (hd : DataW.Trod enc Tryz.prog w base spare held 27 v d ps) :
    ∃ (a b c : Int) (x y : Value), v = .agg #[.int .i64 a, .int .i64 b, .int .i64 c, x, y] ∧ x.oneCell' = true ∧ y.oneCell' = true := by
  obtain ⟨cs, rfl, hsz⟩ := okWide_struct (P := Tryz.prog) (t := 27) rfl hval
  rw [show Tryz.prog.cellsOf 27 = 5 by kernel_rfl] at hsz
  obtain ⟨fuel, hf⟩ := hd
  obtain ⟨cl⟩ := cs
  obtain ⟨xs, n, _, hx, _, hlen, hfs⟩ := DataW.trod_struct (P := Tryz.prog) (t := 27) rfl hf
  have h0 := hfs 0 _ rfl
  have h1 := hfs 1 _ rfl
  have h2 := hfs 2 _ rfl
  match xs, hlen with
  | [y0, y1, y2], _ =>
    match cl, hsz with
    | [c0, c1, c2, c3, c4], _ =>
      obtain ⟨zs, m, _, _, _, zlen, zfs⟩ := DataW.trod_struct (P := Tryz.prog) (t := 23) rfl h0
      have g0 := zfs 0 _ rfl
      have g1 := zfs 1 _ rfl
      have g2 := zfs 2 _ rfl
      match zs, zlen with
      | [u0, u1, u2], _ =>
        obtain ⟨z0, rfl, _, _⟩ := int_cell (P := Tryz.prog) (k := .i64) (c := c0) rfl g0
        obtain ⟨z1, rfl, _, _⟩ := int_cell (P := Tryz.prog) (k := .i64) (c := c1) rfl g1
        obtain ⟨z2, rfl, _, _⟩ := int_cell (P := Tryz.prog) (k := .i64) (c := c2) rfl g2
        exact ⟨z0, z1, z2, c3, c4, rfl, slice_cell (e := 9) rfl h1, slice_cell (e := 131) rfl h2⟩
end
end IcRow
theorem nobody_fn {h : Heap} (T : Tab h) (hh : 9 ≤ h.size) {a b c id : Int} {x y : Value} (hx : x.oneCell' = true) (hy : y.oneCell' = true) :
    Fx Tryz.prog 3 #[.agg #[.int .i64 a, .int .i64 b, .int .i64 c, x, y], .int .u64 id] h fun u h' => u = .bool true ∧ ExtH h h' :=
  nobody_law hx hy fun h' e => Sx.awake_fx (Nat.le_trans hh e.size) (T.more e)
end Go.Proofs.YtdielfpgekenkaaGreatDoor
