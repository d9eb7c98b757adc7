/-
  ColdReads: the walk of the law.
  From a contract over a heap to the row's step: a call that comes back with true and only makes blocks.
  What the row of ColdReads says: there are the program's variables.
-/
import Derived.Test.YtkdmpdbbcgdfkaaGreatDoorJ22
import Derived.Test.YtkdmpdbbcgdfkaaGreatDoorJ23
import Derived.Test.YtkdmpdbbcgdfkaaGreatDoorJ31
import Derived.Test.YtkdmpdbbcgdfkaaGreatDoorJ7
import Derived.WalkKit
import Derived.ProofKit
import Derived.OpenShut
import Derived.ShutString
import Derived.ChangeOld
import Derived.Below
import Derived.Test.YtkdmpdbbcgdfkaaGreatDoorCards
import Derived.Test.YtkdmpdbbcgdfkaaGreatDoorTie
import Derived.SliceStrings
import Derived.Deep.DeepHandedRow
import Derived.Lib.LaidTab
import Derived.Stop.LaidErr
import Derived.Shelf.Vars
import Derived.LaidMore
import Derived.LaidOnce
import Derived.MakeChecks
import Derived.Lay
import Derived.ChangeSame
import Derived.ChangeMaps
namespace Go.Proofs.YtkdmpdbbcgdfkaaGreatDoor
open Go Vm
set_option maxRecDepth 100000
set_option linter.unusedVariables false
set_option linter.unusedSimpArgs false
theorem Cd.readA_may {l : List UInt8} {a : Cd.An} (h : Cd.readA l = some a) : Cd.may a = true := by
  unfold Cd.readA at h
  simp only at h
  split at h
  · cases h
  · split at h
    · rename_i hc
      cases h
      exact hc.2
    · cases h
theorem Cd.may_len {a : Cd.An} (h : Cd.may a = true) : a.diags.length ≤ 64 ∧ a.units.length ≤ 64 ∧ a.reads.length ≤ 65536 := by
  refine ⟨?_, ?_, ?_⟩
  · by_cases e : 64 < a.diags.length
    · rw [Cd.may_no (.inr (.inr (.inl e)))] at h; cases h
    · omega
  · by_cases e : 64 < a.units.length
    · rw [Cd.may_no (.inr (.inr (.inr (.inl e))))] at h; cases h
    · omega
  · by_cases e : 65536 < a.reads.length
    · rw [Cd.may_no (.inr (.inr (.inr (.inr (.inr (.inl e)))))) ] at h; cases h
    · omega
theorem Cd.get_len (A : Option Cd.An) (h : ∀ a, A = some a → Cd.may a = true) : (A.getD Cd.an0).diags.length ≤ 64 ∧ (A.getD Cd.an0).units.length ≤ 64 ∧ (A.getD Cd.an0).reads.length ≤ 65536 := by
  cases A with
  | none => exact ⟨Nat.zero_le _, Nat.zero_le _, Nat.zero_le _⟩
  | some a => exact Cd.may_len (h a rfl)
theorem RA.form {h : Heap} {v : Value} {a : Cd.An} (r : RA h v a) : ∃ da dc ua uc ra rc, v = .agg (anC a.code (.slice da a.diags.length dc) (.slice ua a.units.length uc) a.bytes (.slice ra a.reads.length rc)).toArray ∧
    RDg h (.slice da a.diags.length dc) a.diags ∧ RT h (.slice ua a.units.length uc) a.units ∧ RSe h (.slice ra a.reads.length rc) a.reads := by
  obtain ⟨dv, uv, rv, rfl, rd, ru, rr⟩ := r.cells
  obtain ⟨da, dc, hde, _⟩ := Vm.Src.form rd
  subst hde
  obtain ⟨ua, uc, hue, _⟩ := ru.fix
  subst hue
  obtain ⟨ra, rc, hre, _⟩ := Vm.Src.form rr.1
  subst hre
  exact ⟨da, dc, ua, uc, ra, rc, rfl, rd, ru, rr⟩
theorem same23_fn {h : Heap} {av bv : Value} {a : Cd.An} (ra : RA h av a) (rb : RA h bv a) (hl : a.diags.length ≤ 64 ∧ a.units.length ≤ 64 ∧ a.reads.length ≤ 65536) :
    Fx Tryz.prog 13 #[av, bv] h fun u h' => u = .bool true ∧ ExtH h h' := by
  obtain ⟨da, dc, ua, uc, sa, sc, rfl, ad, au, ar⟩ := ra.form
  obtain ⟨da', dc', ua', uc', sa', sc', rfl, bd, bu, br⟩ := rb.form
  refine fn_of 38 Tryz.func13 rfl (by kernel_rfl) rfl (by simp) ?_
  refine cw_seq (cw_go rfl ?_)
  conv => whnf
  intro h1 n1
  conv => whnf
  have y1 : Blk h1 h.size (anC a.code (.slice da a.diags.length dc) (.slice ua a.units.length uc) a.bytes (.slice sa a.reads.length sc)) 27 := n1.blk
  conv => whnf
  intro h2 n2
  conv => whnf
  have y2 : Blk h2 h1.size (anC a.code (.slice da' a.diags.length dc') (.slice ua' a.units.length uc') a.bytes (.slice sa' a.reads.length sc')) 27 := n2.blk
  replace y1 := n2.ext.blk y1
  have x2 := n1.ext.trans n2.ext
  conv => whnf
  refine cw_seq (cw_go rfl ?_)
  conv => whnf
  refine ⟨_, y1.rd (o := 0) rfl, ?_⟩
  conv => whnf
  refine ⟨_, y2.rd (o := 0) rfl, ?_⟩
  conv => whnf
  refine say_t rfl ?_
  conv => whnf
  refine ⟨_, y1.rd (o := 1) rfl, ?_⟩
  conv => whnf
  refine ⟨_, y2.rd (o := 1) rfl, ?_⟩
  conv => whnf
  refine ⟨_, rfl, _, samedg_fn (ad.more x2) (bd.more x2) (by omega), ?_⟩
  rintro _ h3 ⟨rfl, x3⟩
  conv => whnf
  refine ⟨_, (x3.blk y1).rd (o := 2) rfl, ?_⟩
  conv => whnf
  refine ⟨_, (x3.blk y2).rd (o := 2) rfl, ?_⟩
  conv => whnf
  refine ⟨_, rfl, _, sametx_fn (au.more (x2.trans x3)) (bu.more (x2.trans x3)) (by omega), ?_⟩
  rintro _ h4 ⟨rfl, x4⟩
  have x34 := x3.trans x4
  conv => whnf
  refine ⟨_, (x34.blk y1).rd (o := 3) rfl, ?_⟩
  conv => whnf
  refine ⟨_, (x34.blk y2).rd (o := 3) rfl, ?_⟩
  conv => whnf
  refine say_seq (fun _ => ?_) (fun hne => (hne rfl).elim)
  conv => whnf
  refine ⟨_, (x34.blk y1).rd (o := 4) rfl, ?_⟩
  conv => whnf
  refine ⟨_, (x34.blk y2).rd (o := 4) rfl, ?_⟩
  conv => whnf
  refine ⟨_, rfl, _, samese_fn (ar.more (x2.trans x34)) (br.more (x2.trans x34)) (by omega), ?_⟩
  rintro _ h5 ⟨rfl, x5⟩
  conv => whnf
  exact cw_ret ⟨rfl, x2.trans (x34.trans x5)⟩
theorem law_fn (s : List UInt8) (hs : s.length ≤ 1000000000) {h : Heap} (hh : 8 ≤ h.size) :
    Fx Tryz.prog 4 #[.string (bs s)] h fun u h' => u = .bool true ∧ ExtH h h' := by
  have K1 := fun h => read_fn s hs h
  have K2 := fun h => rread_fn s hs h
  have hb := Cd.get_len (Cd.readA s) (fun a ha => Cd.readA_may ha)
  generalize (Cd.readA s) = A at K1 K2 hb
  refine fn_of 38 Tryz.func4 rfl (by kernel_rfl) rfl (by simp) ?_
  refine cw_seq (cw_go rfl ?_)
  conv => whnf
  refine cw_seq (cw_go rfl ?_)
  conv => whnf
  refine ⟨_, rfl, _, K1 h, ?_⟩
  rintro _ h1 ⟨av, rfl, ra, x1⟩
  obtain ⟨da, dc, ua, uc, sa, sc, rfl, ad, au, ar⟩ := ra.form
  conv => whnf
  intro h2 n2
  conv => whnf
  have y2 : Blk h2 h1.size anZ 27 := n2.blk
  conv => whnf
  intro h3 n3
  conv => whnf
  have y3 : Blk h3 h2.size (fltC 0 0) 38 := n3.blk
  replace y2 := n3.ext.blk y2
  have z1 := x1.size
  have z2 := n2.size
  have z3 := n3.size
  refine ⟨_, _, y2, ⟨by show 5 ≤ 5; decide, rfl, by simp [anC, strv, Value.oneCell']⟩, ?_⟩
  intro h4 w4
  have z4 := w4.size
  conv => whnf
  refine ⟨_, _, w4.blk y3 (by omega), ⟨by show 2 ≤ 2; decide, rfl, by simp [fltC, Value.oneCell']⟩, ?_⟩
  intro h5 w5
  have z5 := w5.size
  have y5 : Blk h5 h1.size (anC (A.getD Cd.an0).code (.slice da (A.getD Cd.an0).diags.length dc) (.slice ua (A.getD Cd.an0).units.length uc) (A.getD Cd.an0).bytes (.slice sa (A.getD Cd.an0).reads.length sc)) 27 := w5.blk w4.new (by omega)
  have y6 : Blk h5 h2.size (fltC (if A.isSome then 0 else 230) 0) 38 := w5.new
  have x15 : ExtH h1 h5 := ⟨by omega, fun b hb => by rw [w5.block b (by omega), w4.block b (by omega), n3.block b (by omega), n2.block b hb]⟩
  clear y2 y3 w4 w5 n2 n3
  conv => whnf
  refine cw_seq (cw_go rfl ?_)
  conv => whnf
  refine ⟨_, rfl, _, K2 h5, ?_⟩
  rintro _ h6 ⟨bv, rfl, rb, x6⟩
  obtain ⟨da', dc', ua', uc', sa', sc', rfl, bd, bu, br⟩ := rb.form
  conv => whnf
  intro h7 n7
  conv => whnf
  have z6 := x6.size
  have z7 := n7.size
  have y7 : Blk h7 h6.size anZ 27 := n7.blk
  refine ⟨_, _, y7, ⟨by show 5 ≤ 5; decide, rfl, by simp [anC, strv, Value.oneCell']⟩, ?_⟩
  intro h8 w8
  have z8 := w8.size
  have x68 : ExtH h6 h8 := ⟨by omega, fun b hb => by rw [w8.block b (by omega), n7.block b hb]⟩
  have y8 : Blk h8 h6.size (anC (A.getD Cd.an0).code (.slice da' (A.getD Cd.an0).diags.length dc') (.slice ua' (A.getD Cd.an0).units.length uc') (A.getD Cd.an0).bytes (.slice sa' (A.getD Cd.an0).reads.length sc')) 27 := w8.new
  have x58 := x6.trans x68
  have y58 := x58.blk y5
  have y68 := x58.blk y6
  have ra8 := ra.more (x15.trans x58)
  have rb8 := rb.more x68
  clear y7 w8 n7 y5 y6
  conv => whnf
  refine cw_seq (cw_go rfl ?_)
  conv => whnf
  refine ⟨_, rfl, y58.all, ?_⟩
  conv => whnf
  refine ⟨_, rfl, y8.all, ?_⟩
  conv => whnf
  refine ⟨_, rfl, _, same23_fn ra8 rb8 hb, ?_⟩
  rintro _ h9 ⟨rfl, x9⟩
  conv => whnf
  refine ⟨_, rfl, (x9.blk y68).all, ?_⟩
  conv => whnf
  refine ⟨_, rfl, (fltC 0 0).toArray, fun w => by kernel_rfl, ?_⟩
  conv => whnf
  conv => whnf
  have x09 := x1.trans (x15.trans (x58.trans x9))
  have hal : 8 ≤ h9.size := by have := x09.size; omega
  cases A with
  | none =>
    refine ⟨_, fun w => flt_eq (e := 230) (a := 0) (by decide) (by decide) (by decide) (by decide) _ _ w, ?_⟩
    conv => whnf
    refine ⟨.bool true, fun w => by kernel_rfl, ?_⟩
    conv => whnf
    conv => whnf
    refine ⟨_, rfl, (x9.blk y68).all, ?_⟩
    conv => whnf
    refine ⟨_, rfl, (fltC 230 0).toArray, fun w => by kernel_rfl, ?_⟩
    conv => whnf
    conv => whnf
    refine ⟨_, fun w => flt_eq (e := 230) (a := 0) (by decide) (by decide) (by decide) (by decide) _ _ w, ?_⟩
    conv => whnf
    refine ⟨_, rfl, _, Sx.alive_fx hal, ?_⟩
    rintro _ h10 ⟨rfl, x10⟩
    conv => whnf
    exact cw_ret ⟨rfl, x09.trans x10⟩
  | some a =>
    refine ⟨_, fun w => flt_eq (e := 0) (a := 0) (by decide) (by decide) (by decide) (by decide) _ _ w, ?_⟩
    conv => whnf
    refine ⟨.bool true, fun w => by kernel_rfl, ?_⟩
    conv => whnf
    conv => whnf
    refine ⟨_, rfl, _, Sx.alive_fx hal, ?_⟩
    rintro _ h10 ⟨rfl, x10⟩
    conv => whnf
    exact cw_ret ⟨rfl, x09.trans x10⟩
end Go.Proofs.YtkdmpdbbcgdfkaaGreatDoor
namespace Go.Proofs.YtkdmpdbbcgdfkaaGreatDoor.Vm
open Go Go.RowKit
theorem Fx.calls {P : Program} {f : FuncId} {args : Array Value} {W : World} (hp : plain P f = true) (H : Fx P f args W.heap fun v h' => v = .bool true ∧ ExtH W.heap h') :
    Calls P f args W fun e W' => e = .returned (.bool true) ∧ Below W.heap.size W W' := by
  rcases H with ⟨_, H⟩ | H
  · refine (H W rfl).mono ?_
    rintro e w' ⟨v, rfl, hs, rfl, hx⟩
    exact ⟨rfl, ⟨hs.os, hs.tape, hs.output, hx.size, hx.block⟩⟩
  · obtain ⟨v, w', h1, _⟩ := H W rfl
    unfold plain at hp
    split at hp
    · rename_i fn hfn
      simp only [Bool.and_eq_true, bne_iff_ne, ne_eq] at hp
      obtain ⟨body, hb⟩ := Option.isSome_iff_exists.1 hp.1
      simp [callFunc, hfn, hp.2, hb] at h1
    · cases hp
end Go.Proofs.YtkdmpdbbcgdfkaaGreatDoor.Vm
namespace Go.Proofs.YtkdmpdbbcgdfkaaGreatDoor
open Go Vm
open Go.ChangeShapes Go.WideShapes Go.ChangeAt Go.RowKit
set_option maxRecDepth 100000
theorem heap8 {W : World} (hsh : W.ShapedOpen Tryz.prog) : 8 ≤ W.heap.size := by
  have h0 : (((begin Tryz.prog (fun _ _ => 0) default).world.heap[7]?).bind Obj.row?).isSome = true := by kernel_rfl
  obtain ⟨⟨zero, t⟩, h1⟩ := Option.isSome_iff_exists.1 h0
  obtain ⟨cs, h2, _⟩ := hsh.1 7 zero t (of_decide_eq_true (by kernel_rfl)) h1
  exact (Array.getElem?_eq_some_iff.1 h2).1
/-- a world for the witnesses -/
noncomputable def laidWorld (os : Os) : World := World.laidAll Tryz.prog os Rows.coldReadsUptoRow.laid
end Go.Proofs.YtkdmpdbbcgdfkaaGreatDoor
