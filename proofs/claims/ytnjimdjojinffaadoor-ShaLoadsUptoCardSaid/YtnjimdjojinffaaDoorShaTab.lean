/-
  The document's table, as the rows lay it.
-/
import Derived.Test.YtnjimdjojinffaaDoorCards
import Derived.Test.YtnjimdjojinffaaDoorTie
import Derived.Test.YtnjimdjojinffaaDoorShaRefComp
import Derived.Test.YtnjimdjojinffaaDoorShaOpen
import Derived.Deep.DeepHandedRow
import Derived.Lib.LaidTab
namespace Go.Proofs.YtnjimdjojinffaaDoor
open Go Vm
open Go.ChangeShapes Go.WideShapes Go.ChangeAt Go.RowKit
set_option maxRecDepth 100000
def zs64 : List Int := [1116352408, 1899447441, 3049323471, 3921009573, 961987163, 1508970993, 2453635748, 2870763221, 3624381080, 310598401, 607225278, 1426881987, 1925078388, 2162078206, 2614888103, 3248222580, 3835390401, 4022224774, 264347078, 604807628, 770255983, 1249150122, 1555081692, 1996064986, 2554220882, 2821834349, 2952996808, 3210313671, 3336571891, 3584528711, 113926993, 338241895, 666307205, 773529912, 1294757372, 1396182291, 1695183700, 1986661051, 2177026350, 2456956037, 2730485921, 2820302411, 3259730800, 3345764771, 3516065817, 3600352804, 4094571909, 275423344, 430227734, 506948616, 659060556, 883997877, 958139571, 1322822218, 1537002063, 1747873779, 1955562222, 2024104815, 2227730452, 2361852424, 2428436474, 2756734187, 3204031479, 3329325298]
theorem zs64_eq : zs64.map (Value.int .u32) = Sha.K.map u32v := by kernel_rfl
theorem gTab : Tryd.prog.globalNamed "treadle/treadleref02.constants" = some 0 := by kernel_rfl
theorem gTabType : (Tryd.prog.globals[0]?).map (·.type) = some 82 := by kernel_rfl
theorem tab_of {W : World} (h : laidMetH Tryd.prog [("treadle/treadleref02.constants", Rows.laid_treadle_treadleref02_constants)] W) : Tab W.heap := by
  have ht : Lib.TabIs Tryd.prog W "treadle/treadleref02.constants" .u32 zs64 := Lib.tabIs_of_head (rest := []) gTab gTabType (t := 82) (e := 22) (n := 64) rfl rfl (by kernel_rfl) (by kernel_rfl) h
  intro j v hj
  have hl : j < 64 := by have := (List.getElem?_eq_some_iff.1 hj).1; simpa [Sha.K] using this
  have := ht.cell gTab j hl
  rw [cell_eq_rd] at this
  rw [← zs64_eq, List.getElem?_map, List.getElem?_eq_getElem (show j < zs64.length from hl)] at hj
  rw [Nat.zero_add, this, ← hj, List.getD_eq_getElem?_getD, List.getElem?_eq_getElem (show j < zs64.length from hl)]
  rfl
/-- a world for the witnesses: the table (block 0) holds what its text lays -/
noncomputable def laidWorld (os : Os) : World :=
  { World.holding Tryd.prog os ⟨#[], #[], []⟩ with heap := (World.holding Tryd.prog os ⟨#[], #[], []⟩).heap.modify 0 fun
      | .cells _ t frozen => .cells (zs64.map (Value.int .u32)).toArray t frozen
      | o => o }
section
variable {H : Type} {enc : TypeId × Value → H} {w : World} {base : Nat} {spare : Nat → Bool} {held : Bool}
theorem words_of (zs : List Int) (h : ∀ z ∈ zs, (Lit.int .u32 z).wf = true) : ∃ l : List UInt32, l.length = zs.length ∧ zs.map (Value.int .u32) = l.map u32v := by
  refine ⟨zs.map (fun z => UInt32.ofNat z.toNat), by simp, ?_⟩
  rw [List.map_map]
  apply List.map_congr_left
  intro z hz
  have : 0 ≤ z ∧ z ≤ 4294967295 := by
    have := h z hz
    simpa [Lit.wf, IntKind.min, IntKind.max, IntKind.signed, IntKind.bits] using this
  show Value.int .u32 z = Value.int .u32 ((UInt32.ofNat z.toNat).toNat : Int)
  congr 1
  simp
  omega
theorem open_words {v : Value} {d : DataW H} {ps : List MemPlace} {r : Reach} {b0 : Nat} (hval : Value.okWide Tryd.prog w r b0 23 v) (hd : DataW.Trod enc Tryd.prog w base spare held 23 v d ps) :
    ∃ s : Sha.S8, v = .agg (s.list.map u32v).toArray := by
  obtain ⟨zs, h1, h2, h3⟩ := open_arr (P := Tryd.prog) (n := 8) (e := 22) (k := .u32) rfl rfl (by kernel_rfl) (by kernel_rfl) hval hd
  obtain ⟨l, h4, h5⟩ := words_of zs h3
  rw [h5] at h2
  match l, h4.trans h1 with
  | [a, b, c, d, e, f, g, h], _ => exact ⟨⟨a, b, c, d, e, f, g, h⟩, h2⟩
theorem open_block {v : Value} {d : DataW H} {ps : List MemPlace} {r : Reach} {b0 : Nat} (hval : Value.okWide Tryd.prog w r b0 24 v) (hd : DataW.Trod enc Tryd.prog w base spare held 24 v d ps) :
    ∃ l : List UInt8, l.length = 64 ∧ v = .agg (l.map u8v).toArray := by
  obtain ⟨zs, h1, h2, h3⟩ := open_arr (P := Tryd.prog) (n := 64) (e := 5) (k := .u8) rfl rfl (by kernel_rfl) (by kernel_rfl) hval hd
  obtain ⟨l, h4, h5⟩ := bytes_of zs h3
  refine ⟨l, by omega, ?_⟩
  rw [h2, h5, map_u8v]
end
end Go.Proofs.YtnjimdjojinffaaDoor
