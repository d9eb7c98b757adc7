/-
  The library's contracts off the kit's shelf, as contracts over heaps: strings.Cut, strconv.Atoi and Itoa.
-/
import Derived.Test.YtgecapllodgdeaaGreatDoorVmMap
import Derived.Test.YtgecapllodgdeaaGreatDoorShaRefTag
import Derived.Test.YtgecapllodgdeaaGreatDoorShelf
namespace Go.Proofs.YtgecapllodgdeaaGreatDoor
open Go Vm
set_option maxRecDepth 100000
set_option linter.unusedVariables false
set_option linter.unusedSimpArgs false
theorem Vm.Fx.of_calls {P : Program} {f : FuncId} {args : Array Value} {h : Heap} {R : Value → Heap → Prop} (hp : plain P f = true)
    (H : ∀ w, w.heap = h → Calls P f args w (fun e w' => ∃ v, e = .returned v ∧ SameEnv w w' ∧ R v w'.heap)) : Fx P f args h R := .inl ⟨hp, H⟩
theorem ext_below {w w' : World} (b : RowKit.Below w.heap.size w w') : SameEnv w w' ∧ ExtH w.heap w'.heap := ⟨⟨b.os, b.tape, b.output⟩, b.size, b.block⟩
/-- the package variables that the library reads -/
structure Gl (h : Heap) : Prop where
  len : ∃ m, rd h ⟨0, 0, none⟩ = some (.int .i64 m)
  tab : Tab h
  pow : ∃ t f, h[(3 : Nat)]? = some (.cells (Lib.pow10Tab.map fun z => Value.int .u64 z).toArray t f)
  esyn : ∃ t p, rd h ⟨1, 0, none⟩ = some (.iface t p)
  erng : ∃ t p, rd h ⟨2, 0, none⟩ = some (.iface t p)
theorem rd_more {h h' : Heap} (e : ExtH h h') {a : Addr} {v : Value} (r : rd h a = some v) : rd h' a = some v := (e.chg (S := fun _ => False)).rd r (fun e => e)
theorem Gl.more {h h' : Heap} (G : Gl h) (e : ExtH h h') : Gl h' := by
  obtain ⟨⟨m, h1⟩, h2, ⟨t, f, h4⟩, ⟨ta, pa, h6⟩, ⟨tb, pb, h7⟩⟩ := G
  exact ⟨⟨m, rd_more e h1⟩, h2.more e, ⟨t, f, by rw [e.block _ (Array.getElem?_eq_some_iff.1 h4).1]; exact h4⟩, ⟨ta, pa, rd_more e h6⟩, ⟨tb, pb, rd_more e h7⟩⟩
theorem bs_data (s : List UInt8) : (bs s).data.toList = s := by simp [bs]
theorem cut_fn (s sep : List UInt8) {h : Heap} (G : Gl h) (hs : s.length ≤ 1000000000) :
    Fx Tryz.prog 11 #[.string (bs s), .string (bs sep)] h fun u h' => u = .tuple #[.string (bs (Lib.cut s sep).1), .string (bs (Lib.cut s sep).2.1), .bool (Lib.cut s sep).2.2] ∧ h' = h := by
  obtain ⟨m, hm⟩ := G.len
  refine Fx.of_calls rfl fun w hw => ?_
  subst hw
  refine (Tryz.strings_Cut (bs s) (bs sep) m w (by rw [bs_size]; omega) (by rw [cell_eq_rd]; exact hm)).mono ?_
  rintro _ _ ⟨rfl, n, rfl⟩
  rw [bs_data, bs_data]
  exact ⟨_, rfl, ⟨rfl, rfl, rfl⟩, rfl, rfl⟩
theorem atoi_fn (s : List UInt8) {h : Heap} (G : Gl h) (hs : s.length ≤ 1000000000) :
    Fx Tryz.prog 12 #[.string (bs s)] h fun u h' => ExtH h h' ∧ ((∃ v, Lib.atoiAll s = .ok v ∧ u = .tuple #[.int .i64 v, .nilIface]) ∨ ((∀ v, Lib.atoiAll s ≠ .ok v) ∧ ∃ v N, u = .tuple #[.int .i64 v, .iface 127 (.pointer (some ⟨N, 0, none⟩))])) := by
  refine Fx.of_calls rfl fun w hw => ?_
  subst hw
  have hd := bs_data s
  rcases hc : Lib.atoiAll s with v | _ | _
  · refine (Tryz.strconv_Atoi_ok (bs s) (by rw [bs_size]; omega) v (by rw [hd]; exact hc) w).mono ?_
    rintro _ w' ⟨rfl, hw'⟩
    refine ⟨_, rfl, ?_⟩
    rcases hw' with rfl | ⟨t, rfl⟩
    · exact ⟨SameEnv.refl _, ExtH.refl _, .inl ⟨v, rfl, rfl⟩⟩
    · have := ext_below (Lib.bytesWorld_below w 5 t)
      exact ⟨this.1, this.2, .inl ⟨v, rfl, rfl⟩⟩
  · obtain ⟨te, pe, he⟩ := G.esyn
    refine (Go.Proofs.Any.strconv_Atoi_syntax Tryz.laysC172 (bs s) (by rw [bs_size]; omega) (by rw [hd]; exact hc) (.iface te pe) w (by rw [cell_eq_rd]; exact he) (.inr ⟨_, _, rfl⟩)).mono ?_
    rintro _ w' ⟨N, rfl, _, _, hb⟩
    have := ext_below hb
    exact ⟨_, rfl, this.1, this.2, .inr ⟨fun v h => (by cases h), _, N, rfl⟩⟩
  · obtain ⟨te, pe, he⟩ := G.erng
    refine (Tryz.strconv_Atoi_range (bs s) (by rw [bs_size]; omega) (by rw [hd]; exact hc) (.iface te pe) w (by rw [cell_eq_rd]; exact he) (.inr ⟨_, _, rfl⟩)).mono ?_
    rintro _ w' ⟨N, rfl, _, _, hb⟩
    have := ext_below hb
    exact ⟨_, rfl, this.1, this.2, .inr ⟨fun v h => (by cases h), _, N, rfl⟩⟩
theorem itoa_fn (n : Int) (h1 : -9223372036854775808 ≤ n) (h2 : n ≤ 9223372036854775807) {h : Heap} (G : Gl h) :
    Fx Tryz.prog 13 #[.int .i64 n] h fun u h' => u = .string (bs (Lib.itoa n)) ∧ ExtH h h' := by
  refine Fx.of_calls rfl fun w hw => ?_
  subst hw
  refine (Tryz.strconv_Itoa n h1 h2 w ?_).mono ?_
  · have hn : Tryz.prog.globalNamed "internal/strconv.uint64pow10" = some 3 := by kernel_rfl
    obtain ⟨t, f, h4⟩ := G.pow
    unfold Lib.TabIs World.var?
    rw [hn]
    simp only [Option.bind_some, h4]
  · rintro _ w' ⟨rfl, k, os, rfl⟩
    refine ⟨_, rfl, ⟨rfl, rfl, rfl⟩, rfl, ?_⟩
    show ExtH w.heap (w.heap ++ os)
    exact ⟨by simp, fun b hb => by rw [Array.getElem?_append_left hb]⟩
end Go.Proofs.YtgecapllodgdeaaGreatDoor
