/-
  ShaNobody: a nil hash, and a plain one, answer as told: whatever parts (of bulk at most 1048576, the document's table with them), the law returns true, and what was there stays. (The document's table is tied to its text.)
-/
import Derived.Test.YtnjimdjojinffaaDoorShaTab
import Derived.Test.YtnjimdjojinffaaDoorShaRefOf
import Derived.Test.YtnjimdjojinffaaDoorShaNil
import Derived.Test.YtnjimdjojinffaaDoorShaParts
namespace Go.Proofs.YtnjimdjojinffaaDoor.shaNobody
open Go Vm
open Go.ChangeShapes Go.WideShapes Go.ChangeAt Go.RowKit
set_option maxRecDepth 100000
set_option linter.unusedVariables false
theorem law (x : Value) (ms : List (List UInt8)) (pv : List Value) (h : Heap) (T : Tab h) (R : PD (fun k => k < h.size) h x ms pv) (hms : ms.flatten.length + ms.length ≤ 1048576) :
    Fx Tryd.prog 6 #[x] h fun u h' => u = .bool true ∧ ExtH h h' := by
  refine fn_of 75 Tryd.func6 rfl (by kernel_rfl) rfl (by simp) ?_
  obtain ⟨xa, xc, hfx, hlen⟩ := R.fix
  refine cw_seq (cw_region rfl ?_)
  refine cw_seq (cw_region rfl ?_)
  refine cw_seq (cw_region rfl ?_)
  conv => whnf
  refine ⟨_, rfl, _, reset_nil h, ?_⟩
  rintro _ h1 ⟨rfl, e⟩
  subst h1
  refine cw_seq (cw_seq (cw_region rfl ?_))
  conv => whnf
  refine ⟨_, rfl, _, write_nil x h, ?_⟩
  rintro _ h1 ⟨rfl, e⟩
  subst h1
  conv => whnf
  refine ⟨_, rfl, _, sum_nil h, ?_⟩
  rintro _ h1 ⟨rfl, x1⟩
  conv => whnf
  refine ⟨_, rfl, ((List.replicate 32 (0 : UInt8)).map u8v).toArray, fun w => by kernel_rfl, ?_⟩
  conv => whnf
  refine ⟨.bool false, fun w => dig_differ _ _ (List.replicate 32 (0 : UInt8)) rfl w, ?_⟩
  conv => whnf
  refine ⟨_, rfl, _, len_nil h1, ?_⟩
  rintro _ h2 ⟨rfl, e⟩
  subst h2
  conv => whnf
  refine ⟨_, rfl, _, clone_nil h1, ?_⟩
  rintro _ h2 ⟨rfl, e⟩
  subst h2
  conv => whnf
  refine ⟨.bool false, fun w => by kernel_rfl, ?_⟩
  conv => whnf
  refine ⟨_, rfl, _, state_nil h1, ?_⟩
  rintro _ h2 ⟨rfl, x2⟩
  conv => whnf
  refine ⟨_, rfl, (stateC zeroS (.slice none 0 0) 0).toArray, fun w => by kernel_rfl, ?_⟩
  conv => whnf
  have r0 : ∀ {h : Heap}, RB h (.slice none 0 0) [] := fun {h} => (RD.nil (D := fun _ => True) (h := h)).1
  refine ⟨_, rfl, _, same_fn r0 r0, ?_⟩
  rintro _ h3 ⟨rfl, x3⟩
  have x03 := x1.trans (x2.trans x3)
  conv => whnf
  refine cw_false rfl (cw_skip ?_)
  -- a plain one
  refine cw_seq (cw_region rfl ?_)
  conv => whnf
  refine ⟨_, rfl, hashZ.toArray, fun w => by kernel_rfl, ?_⟩
  conv => whnf
  intro h4 n4
  have z3 := x03.size; have z4 := n4.size
  have y4 : Blk h4 h3.size hashZ 60 := n4.blk
  have x04 := x03.trans n4.ext
  clear n4
  generalize hp : h3.size = p at *
  refine cw_seq (cw_seq (cw_region rfl ?_))
  conv => whnf
  refine ⟨_, rfl, _, state_plain y4, ?_⟩
  rintro _ h5 ⟨v5, rfl, o5, H5, c5⟩
  have z5 := c5.size
  have x05 : ExtH h h5 := ⟨by omega, fun b hb => by rw [c5.block b (by omega) (by omega), x04.block b hb]⟩
  conv => whnf
  refine ⟨_, rfl, _, rnew_fn h5, ?_⟩
  rintro _ h6 ⟨rfl, x6⟩
  conv => whnf
  refine ⟨_, rfl, _, same_fn (RB.more o5.r x6) r0, ?_⟩
  rintro _ h7 ⟨rfl, x7⟩
  have T7 : Took h7 p (.slice none 0 0) [] := HashAt.more H5 (x6.trans x7)
  have x57 := x6.trans x7
  have x07 := x05.trans x57
  conv => whnf
  refine ⟨_, rfl, _, took_sum T7 (by simp), ?_⟩
  rintro _ h8 ⟨rfl, x8⟩
  have x08 := x07.trans x8
  conv => whnf
  refine ⟨_, rfl, _, rof_fn (T.more x08) (PD.empty (D := fun _ => True)) (by simp), ?_⟩
  rintro _ h9 ⟨rfl, x9⟩
  have x09 := x08.trans x9
  conv => whnf
  refine ⟨.bool false, fun w => dig_differ _ _ _ rfl w, ?_⟩
  refine cw_false rfl (cw_skip ?_)
  -- another plain one's clone
  refine cw_seq (cw_region rfl ?_)
  conv => whnf
  refine ⟨_, rfl, hashZ.toArray, fun w => by kernel_rfl, ?_⟩
  conv => whnf
  intro h10 n10
  have y10 : Blk h10 h9.size hashZ 60 := n10.blk
  have z9 := x09.size; have z10 := n10.size
  have T9 := T7.more (x8.trans x9)
  have lp := T9.blk.lt
  conv => whnf
  refine ⟨_, rfl, _, clone_plain y10, ?_⟩
  rintro _ h11 ⟨q, v11, rfl, hq, U11, c11, f11⟩
  have z11 := c11.size
  have x011 : ExtH h h11 := ⟨by omega, fun b hb => by rw [c11.block b (by omega) (by omega), n10.block b (by omega), x09.block b hb]⟩
  have T11 : Took h11 p (.slice none 0 0) [] := (T9.more n10.ext).keep c11 (by omega) (fun b hb => (ob_nil hb).elim)
  have U11' : Took h11 q v11 [] := U11
  have R11 := R.keep (x011.chg (S := fun _ => False)) (fun _ _ e => e)
  have lu := fun k (hk : ob v11 k) => OwnS.lt U11.own hk
  have lq := U11.blk.lt
  refine cw_seq (cw_region rfl ?_)
  conv => whnf
  refine ⟨_, rfl, _, took_write T11 R11 (fun b hb => ⟨by omega, by omega, ob_nil⟩) (by simp only [List.length_nil]; omega), ?_⟩
  rintro _ h12 ⟨rfl, v12, T12, c12, f12⟩
  rw [List.nil_append] at T12
  have z12 := c12.size
  have U12 : Took h12 q v11 [] := U11'.keep c12 (fun e => e.elim (by omega) ob_nil) (fun b hb e => e.elim (fun e => by have := f11 b hb; omega) ob_nil)
  have x012 : ExtH h h12 := ⟨by omega, fun b hb => by rw [c12.block b (by omega) (fun e => e.elim (by omega) ob_nil), x011.block b hb]⟩
  conv => whnf
  refine ⟨_, rfl, _, took_sum T12 (by omega), ?_⟩
  rintro _ h13 ⟨rfl, x13⟩
  have x013 := x012.trans x13
  conv => whnf
  refine ⟨_, rfl, _, rof_fn (T.more x013) (R.keep (x013.chg (S := fun _ => False)) (fun _ _ e => e)) (by omega), ?_⟩
  rintro _ h14 ⟨rfl, x14⟩
  have x014 := x013.trans x14
  conv => whnf
  refine ⟨.bool true, fun w => dig_same _ _ _ rfl w, ?_⟩
  conv => whnf
  refine ⟨.bool true, fun w => by kernel_rfl, ?_⟩
  conv => whnf
  refine ⟨_, rfl, _, took_sum (U12.more (x13.trans x14)) (by simp), ?_⟩
  rintro _ h15 ⟨rfl, x15⟩
  have x015 := x014.trans x15
  conv => whnf
  refine ⟨_, rfl, _, rof_fn (T.more x015) (PD.empty (D := fun _ => True)) (by simp), ?_⟩
  rintro _ h16 ⟨rfl, x16⟩
  conv => whnf
  refine ⟨.bool true, fun w => dig_same _ _ _ rfl w, ?_⟩
  conv => whnf
  refine ⟨_, rfl, _, awake_fn h16, ?_⟩
  rintro _ h17 ⟨rfl, x17⟩
  exact cw_ret ⟨rfl, x015.trans (x16.trans x17)⟩
--ROW 'treadlelaw02.ShaNobody' 'shaNobody' 'parts' 'uptocard' 'law v0 l0 pv0 W.heap (tab_of hL) R0 (by omega)'
theorem own : ownKnob Tryd.prog.godebug = none := by kernel_rfl
theorem laidOut : laidOutB Tryd.prog = true := by kernel_rfl
theorem contract (H : Type) (enc : TypeId × Value → H) (W : World) (base : Nat) (args : Array Value) (ds gs : List (DataW H)) (before : List MemPlace) (hk : Rows.uptoSmall H (ds ++ gs) = true)
    (hval0 : ∀ (j : Nat) t v, Tryd.f6.params[j]? = some t → args[j]? = some v → Value.okWide Tryd.prog W .any base t v)
    (hW : DataW.Whole enc Tryd.prog Tryd.f6.params.toList Rows.shaNobodySpec.vars false W args.toList ds gs before) (hL : laidMetH Tryd.prog Rows.shaNobodyUptoRow.laid W) :
    Calls Tryd.prog 6 args W fun e W' => ∃ v, e = .returned v ∧ Rows.shaNobodySpec.post enc Tryd.prog Tryd.f6 false true false false W args v W' := by
  have hval := hval0
  have hW' := hW
  obtain ⟨p, q, hA0, hV, rfl, hfz, hnd⟩ := hW
  have hA : DataW.TrodAll enc Tryd.prog W 0 (fun _ => true) true Tryd.f6.params.toList args.toList ds p := hA0
  rw [Tryd.params6] at hA hval
  obtain ⟨v0, vs0, d0, ds0, p0, q0, hargs, rfl, rfl, h0, r0⟩ := trodAll_cons hA
  obtain ⟨rfl, rfl, rfl⟩ := trodAll_nil r0
  obtain rfl : args = #[v0] := by cases args; simp_all
  obtain ⟨rfl, rfl⟩ := trodVars_none hV
  have k0 := h0
  have lt0 : ∀ x ∈ p0, x.block < W.heap.size := by obtain ⟨m, hm⟩ := k0; exact DataW.trod_lt m _ _ _ hm
  obtain ⟨l0, pv0, R0, B0⟩ := open_parts (hval 0 28 v0 rfl rfl) h0
  have hb := hk
  simp only [Rows.uptoSmall, decide_eq_true_eq, List.append_nil, Rows.uptoBulkAll, Rows.uptoBulk] at hb
  clear hA0 hval0
  refine (Fx.calls (by kernel_rfl) (law v0 l0 pv0 W.heap (tab_of hL) R0 (by omega))).mono fun e W' ⟨he, bel⟩ => ?_
  subst he
  exact ⟨_, rfl, _, _, _, [], _, [], hW', trodAll_mk1 (shut_bool Tryd.underlying4 _), (trodAll_cons_mk (Below.trod laidOut (by kernel_rfl) (of_decide_eq_true (by kernel_rfl)) k0 bel lt0) trodAll_mk0), rfl, bel.frame _, fun h => by cases h⟩
theorem laid_met (os : Os) : laidMet Tryd.prog Rows.shaNobodyUptoRow.laid ((laidWorld os).forCall (fun _ _ => 0) ⟨#[], #[Value.slice none 0 0], []⟩).memory :=
  laidMet_of_run' 8 (by kernel_rfl) (by kernel_rfl)
theorem reads (os : Os) {H : Type} (enc : TypeId × Value → H) : ∃ places, DataW.whole enc Tryd.prog ((laidWorld os).forCall (fun _ _ => 0) ⟨#[], #[Value.slice none 0 0], []⟩).memory Tryd.f6.params.toList Rows.shaNobodySpec.vars false (#[Value.slice none 0 0] : Array Value).toList 8 = some ([.nil], [], places) :=
  ⟨[], by kernel_rfl⟩
theorem lifted (os : Os) (started : os.Started) (H : Type) (enc : TypeId × Value → H) (F : Stop.Interp) :
    ReturnsInHanded {} Tryd.checked os 6 .any ((Rows.OpenSpec.upto Rows.shaNobodySpec).preRow enc Tryd.prog Tryd.f6 Rows.shaNobodyUptoRow.domain false Rows.shaNobodyUptoRow.laid) (((Rows.OpenSpec.upto Rows.shaNobodySpec).at F).post enc Tryd.prog Tryd.f6 false true false false) := by
  obtain ⟨places, hx⟩ := reads os enc
  refine returnsInHanded_of_row (C := Tryd.checked) (s := Rows.OpenSpec.upto Rows.shaNobodySpec) own started (by kernel_rfl) Tryd.func6
    (witness_row_at (enc := enc) (C := Tryd.checked) false (laidWorld os) #[Value.slice none 0 0] rfl (by kernel_rfl) (by kernel_rfl) (by kernel_rfl)
      (OpenSpec.preRow_of_cond 8 hx (by kernel_rfl) (fun k hk => by cases hk; kernel_rfl) (by kernel_rfl) (laid_met os))) ?_
  intro W base args ds gs before hval hW _ hcond _ hL _ _
  exact contract H enc W base args ds gs before (hcond _ rfl) hval hW hL
theorem said : Rows.shaNobodyUptoRow.holds Tryd.pinned (Rows.OpenSpec.upto Rows.shaNobodySpec) :=
  OpenClaim.holds_of_cond 6 Tryd.f6 rfl rfl rfl rfl rfl rfl rfl ⟨rfl, rfl, rfl, rfl, rfl⟩ rfl rfl rfl rfl rfl (by kernel_rfl) Tryd.func6 (by kernel_rfl)
    (of_decide_eq_true (by kernel_rfl)) (by unfold Func.isWrapper; first | (rw [if_pos (by decide +kernel)]; kernel_rfl) | (rw [if_neg (by decide +kernel)]; exact ⟨rfl, rfl⟩))
    (fun os started H enc _ F => by rw [OpenClaim.pre_eq_preRow]; exact lifted os started H enc F)
theorem plain (f : FuncId) (fn : Func) (hf : Tryd.pinned.checked.prog.funcNamed "treadle/treadlelaw02.ShaNobody" = some f) (hfn : Tryd.pinned.checked.prog.funcs[f]? = some fn) :
    false = Tryd.pinned.checked.prog.looks [] ∧ ∀ (j : Nat) t, fn.params[j]? = some t → Tryd.pinned.checked.prog.wantsStandIn t = false := by
  obtain rfl : f = 6 := Option.some.inj ((show Tryd.prog.funcNamed "treadle/treadlelaw02.ShaNobody" = some 6 by kernel_rfl).symm.trans hf) |>.symm
  obtain rfl : fn = Tryd.f6 := (Option.some.inj (Tryd.func6.symm.trans hfn)).symm
  refine ⟨by kernel_rfl, fun j t ht => ?_⟩
  rw [Tryd.params6] at ht
  have hm : t = 28 := by simpa using Array.mem_of_getElem? ht
  rcases hm with rfl
  · exact (show Tryd.prog.wantsStandIn 28 = false by kernel_rfl)
theorem over : Rows.ShaNobodyUptoCardSaid :=
  Claim7.holds_tied_plain_at .later [] _ _ _ _ said (fun _ h => by cases h) (by kernel_rfl) (fun _ h => by cases h) shaNobodyUpto_row_tie rfl ⟨rfl, rfl⟩ (by kernel_rfl) rfl plain (by kernel_rfl)
theorem proved : Rows.ShaNobodyUptoCardSaid := over
end Go.Proofs.YtnjimdjojinffaaDoor.shaNobody
