/-
  ShaTags: what is hashed for a purpose is laid out exactly as told, and what is handed in stays: whatever tag, whatever parts (of bulk at most 1048576, the document's table with them), the law returns true, and what was there stays. (The document's table is tied to its text.)
-/
import Derived.Test.YtnjimdjojinffaaDoorShaTab
import Derived.Test.YtnjimdjojinffaaDoorShaRefTag
import Derived.Test.YtnjimdjojinffaaDoorShaSame
import Derived.Test.YtnjimdjojinffaaDoorShaParts
namespace Go.Proofs.YtnjimdjojinffaaDoor.shaTags
open Go Vm
open Go.ChangeShapes Go.WideShapes Go.ChangeAt Go.RowKit
set_option maxRecDepth 100000
set_option linter.unusedVariables false
theorem law (s : List UInt8) (x : Value) (ms : List (List UInt8)) (pv : List Value) (h : Heap) (T : Tab h) (R : PD (fun k => k < h.size) h x ms pv) (hms : s.length + ms.flatten.length + ms.length ≤ 1048576) :
    Fx Tryd.prog 8 #[.agg #[.string (bs s), x]] h fun u h' => u = .bool true ∧ ExtH h h' := by
  refine fn_of 74 Tryd.func8 rfl (by kernel_rfl) rfl (by simp) ?_
  have hs : s.length ≤ maxLen := by simp only [maxLen]; omega
  refine cw_seq (cw_region rfl ?_)
  conv => whnf
  intro h1 n1
  have z1 := n1.size
  have y1 : Blk h1 h.size [.string (bs s), x] 68 := n1.blk
  have x1 := n1.ext
  clear n1
  have keep : ∀ {h' : Heap}, ExtH h h' → PD (fun k => k < h.size) h' x ms pv := fun e => R.keep (e.chg (S := fun _ => False)) (fun _ _ e => e)
  refine cw_seq (cw_region rfl ?_)
  conv => whnf
  refine ⟨_, y1.rd (o := 1) rfl, ?_⟩
  conv => whnf
  refine ⟨_, rfl, _, parts_fn (keep x1) (by omega), ?_⟩
  rintro v2 h2 ⟨qv, o2, x2⟩
  have z2 := x2.size
  have x02 := x1.trans x2
  refine cw_seq (cw_region rfl ?_)
  conv => whnf
  refine ⟨_, (x2.blk y1).rd (o := 0) rfl, ?_⟩
  conv => whnf
  refine ⟨_, rfl, _, preimage_all o2.pd (fun b hb => hb.2) hs (by omega), ?_⟩
  rintro _ h3 ⟨p3, rfl, o3, x3, f3⟩
  have x03 := x02.trans x3
  have z3 := x3.size
  conv => whnf
  refine cw_seq (cw_region rfl ?_)
  conv => whnf
  refine ⟨_, ((x2.trans x3).blk y1).rd (o := 0) rfl, ?_⟩
  conv => whnf
  refine ⟨_, ((x2.trans x3).blk y1).rd (o := 1) rfl, ?_⟩
  conv => whnf
  refine ⟨_, rfl, _, rpreimage_all (keep x03) (fun b hb => by have := x03.size; omega) hs (by omega), ?_⟩
  rintro _ h4 ⟨p4, rfl, o4, x4, f4⟩
  have x04 := x03.trans x4
  have z4 := x4.size
  conv => whnf
  refine cw_seq (cw_region rfl ?_)
  conv => whnf
  have y4 := ((x2.trans x3).trans x4).blk y1
  refine ⟨_, y4.rd (o := 0) rfl, ?_⟩
  conv => whnf
  refine ⟨_, rfl, _, stagged_fn ((o2.more x3).more x4).pd (fun b hb => hb.2) hs (by omega), ?_⟩
  rintro _ h5 ⟨rfl, x5⟩
  have z5 := x5.size
  conv => whnf
  intro h6 n6
  have z6 := n6.size
  conv => whnf
  have y6 : Blk h6 h5.size (List.replicate 32 (u8v 0)) 31 := n6.blk
  have hdl := Sha.tagDig_length s ms
  refine ⟨_, _, y6, ⟨by simp [hdl], by simp [hdl]; rfl, fun x hx => one8 _ x (by simpa using hx)⟩, ?_⟩
  intro h7 w7
  replace w7 := w7.cast (l' := (Sha.tagDig s ms).map u8v) (by simp [splice, hdl])
  have z7 := w7.size
  have x47 : ExtH h4 h7 := ⟨by omega, fun b hb => by rw [w7.block b (by omega), n6.block b (by omega), x5.block b hb]⟩
  have y7 := w7.new
  have x07 := x04.trans x47
  refine cw_seq (cw_region rfl ?_)
  conv => whnf
  refine ⟨_, (x47.blk y4).rd (o := 0) rfl, ?_⟩
  conv => whnf
  refine ⟨_, (x47.blk y4).rd (o := 1) rfl, ?_⟩
  conv => whnf
  refine ⟨_, rfl, _, rtagged_fn (T.more x07) (keep x07) (fun b hb => by have := x07.size; omega) hs (by omega), ?_⟩
  rintro _ h8 ⟨rfl, x8⟩
  have z8 := x8.size
  conv => whnf
  intro h9 n9
  have z9 := n9.size
  conv => whnf
  have y9 : Blk h9 h8.size (List.replicate 32 (u8v 0)) 31 := n9.blk
  refine ⟨_, _, y9, ⟨by simp [hdl], by simp [hdl]; rfl, fun x hx => one8 _ x (by simpa using hx)⟩, ?_⟩
  intro h10 w10
  replace w10 := w10.cast (l' := (Sha.tagDig s ms).map u8v) (by simp [splice, hdl])
  have z10 := w10.size
  have x710 : ExtH h7 h10 := ⟨by omega, fun b hb => by rw [w10.block b (by omega), n9.block b (by omega), x8.block b hb]⟩
  have y10 := w10.new
  have y710 := x710.blk y7
  have x010 := x07.trans x710
  have y1f := x710.blk (x47.blk y4)
  have x410 := x47.trans x710
  refine cw_seq (cw_region rfl ?_)
  conv => whnf
  refine ⟨_, rfl, _, num_fn _ h10, ?_⟩
  rintro _ h11 ⟨rfl, e⟩
  subst h11
  refine ops_q rfl rfl (fun k hk => hk) ?_
  refine ops_q (v := .bool true) rfl rfl (fun k hk => ?_) ?_
  · show k (.bool (Sha.tagErr s == Sha.tagErr s))
    rw [beq_self_eq_true]; exact hk
  conv => whnf
  refine ⟨_, rfl, _, alike_fn (RB.more o3.r (x4.trans x410)) (RB.more o4.r x410), ?_⟩
  rintro _ h11 ⟨rfl, x11⟩
  rw [decide_eq_true rfl]
  conv => whnf
  refine ⟨_, rfl, _, num_fn _ h11, ?_⟩
  rintro _ h12 ⟨rfl, e⟩
  subst h12
  refine ops_g (b := true) rfl rfl rfl rfl (fun k hk => hk) ?_
  refine ops_g (v := .bool true) (b := true) rfl rfl rfl rfl (fun k hk => ?_) ?_
  · show k (.bool (Sha.tagErr s == Sha.tagErr s))
    rw [beq_self_eq_true]; exact hk
  conv => whnf
  refine ⟨_, by simp [hdl]; rfl, (x11.blk y710).all, ?_⟩
  conv => whnf
  refine ⟨_, by simp [hdl]; rfl, (x11.blk y10).all, ?_⟩
  conv => whnf
  refine ⟨.bool true, fun w => dig_same _ _ _ hdl w, ?_⟩
  conv => whnf
  refine ⟨_, (x11.blk y1f).rd (o := 1) rfl, ?_⟩
  conv => whnf
  refine ⟨_, rfl, _, sameparts_fn ((((o2.more x3).more x4).more x410).more x11).pd (keep (x010.trans x11)), ?_⟩
  rintro _ h12 ⟨rfl, x12⟩
  rw [decide_eq_true rfl]
  conv => whnf
  refine ⟨_, rfl, _, awake_fn h12, ?_⟩
  rintro _ h13 ⟨rfl, x13⟩
  exact cw_ret ⟨rfl, (x010.trans x11).trans (x12.trans x13)⟩
--ROW 'treadlelaw02.ShaTags' 'shaTags' 'named' 'uptocard' 'law s0 x0 l0 pv0 W.heap (tab_of hL) R0 (by omega)'
theorem own : ownKnob Tryd.prog.godebug = none := by kernel_rfl
theorem laidOut : laidOutB Tryd.prog = true := by kernel_rfl
theorem contract (H : Type) (enc : TypeId × Value → H) (W : World) (base : Nat) (args : Array Value) (ds gs : List (DataW H)) (before : List MemPlace) (hk : Rows.uptoSmall H (ds ++ gs) = true)
    (hval0 : ∀ (j : Nat) t v, Tryd.f8.params[j]? = some t → args[j]? = some v → Value.okWide Tryd.prog W .any base t v)
    (hW : DataW.Whole enc Tryd.prog Tryd.f8.params.toList Rows.shaTagsSpec.vars false W args.toList ds gs before) (hL : laidMetH Tryd.prog Rows.shaTagsUptoRow.laid W) :
    Calls Tryd.prog 8 args W fun e W' => ∃ v, e = .returned v ∧ Rows.shaTagsSpec.post enc Tryd.prog Tryd.f8 false true false false W args v W' := by
  have hval := hval0
  have hW' := hW
  obtain ⟨p, q, hA0, hV, rfl, hfz, hnd⟩ := hW
  have hA : DataW.TrodAll enc Tryd.prog W 0 (fun _ => true) true Tryd.f8.params.toList args.toList ds p := hA0
  rw [Tryd.params8] at hA hval
  obtain ⟨v0, vs0, d0, ds0, p0, q0, hargs, rfl, rfl, h0, r0⟩ := trodAll_cons hA
  obtain ⟨rfl, rfl, rfl⟩ := trodAll_nil r0
  obtain rfl : args = #[v0] := by cases args; simp_all
  obtain ⟨rfl, rfl⟩ := trodVars_none hV
  have k0 := h0
  have lt0 : ∀ x ∈ p0, x.block < W.heap.size := by obtain ⟨m, hm⟩ := k0; exact DataW.trod_lt m _ _ _ hm
  obtain ⟨s0, x0, l0, pv0, rfl, R0, B0⟩ := open_named (hval 0 68 v0 rfl rfl) h0
  have hb := hk
  simp only [Rows.uptoSmall, decide_eq_true_eq, List.append_nil, Rows.uptoBulkAll, Rows.uptoBulk] at hb
  clear hA0 hval0
  refine (Fx.calls (by kernel_rfl) (law s0 x0 l0 pv0 W.heap (tab_of hL) R0 (by omega))).mono fun e W' ⟨he, bel⟩ => ?_
  subst he
  exact ⟨_, rfl, _, _, _, [], _, [], hW', trodAll_mk1 (shut_bool Tryd.underlying4 _), (trodAll_cons_mk (Below.trod laidOut (by kernel_rfl) (of_decide_eq_true (by kernel_rfl)) k0 bel lt0) trodAll_mk0), rfl, bel.frame _, fun h => by cases h⟩
theorem laid_met (os : Os) : laidMet Tryd.prog Rows.shaTagsUptoRow.laid ((laidWorld os).forCall (fun _ _ => 0) ⟨#[], #[Value.agg #[Value.string ByteArray.empty, Value.slice none 0 0]], []⟩).memory :=
  laidMet_of_run' 8 (by kernel_rfl) (by kernel_rfl)
theorem reads (os : Os) {H : Type} (enc : TypeId × Value → H) : ∃ places, DataW.whole enc Tryd.prog ((laidWorld os).forCall (fun _ _ => 0) ⟨#[], #[Value.agg #[Value.string ByteArray.empty, Value.slice none 0 0]], []⟩).memory Tryd.f8.params.toList Rows.shaTagsSpec.vars false (#[Value.agg #[Value.string ByteArray.empty, Value.slice none 0 0]] : Array Value).toList 8 = some ([.agg [.lit (.string []), .nil]], [], places) :=
  ⟨[], by kernel_rfl⟩
theorem lifted (os : Os) (started : os.Started) (H : Type) (enc : TypeId × Value → H) (F : Stop.Interp) :
    ReturnsInHanded {} Tryd.checked os 8 .any ((Rows.OpenSpec.upto Rows.shaTagsSpec).preRow enc Tryd.prog Tryd.f8 Rows.shaTagsUptoRow.domain false Rows.shaTagsUptoRow.laid) (((Rows.OpenSpec.upto Rows.shaTagsSpec).at F).post enc Tryd.prog Tryd.f8 false true false false) := by
  obtain ⟨places, hx⟩ := reads os enc
  refine returnsInHanded_of_row (C := Tryd.checked) (s := Rows.OpenSpec.upto Rows.shaTagsSpec) own started (by kernel_rfl) Tryd.func8
    (witness_row_at (enc := enc) (C := Tryd.checked) false (laidWorld os) #[Value.agg #[Value.string ByteArray.empty, Value.slice none 0 0]] rfl (by kernel_rfl) (by kernel_rfl) (by kernel_rfl)
      (OpenSpec.preRow_of_cond 8 hx (by kernel_rfl) (fun k hk => by cases hk; kernel_rfl) (by kernel_rfl) (laid_met os))) ?_
  intro W base args ds gs before hval hW _ hcond _ hL _ _
  exact contract H enc W base args ds gs before (hcond _ rfl) hval hW hL
theorem said : Rows.shaTagsUptoRow.holds Tryd.pinned (Rows.OpenSpec.upto Rows.shaTagsSpec) :=
  OpenClaim.holds_of_cond 8 Tryd.f8 rfl rfl rfl rfl rfl rfl rfl ⟨rfl, rfl, rfl, rfl, rfl⟩ rfl rfl rfl rfl rfl (by kernel_rfl) Tryd.func8 (by kernel_rfl)
    (of_decide_eq_true (by kernel_rfl)) (by unfold Func.isWrapper; first | (rw [if_pos (by decide +kernel)]; kernel_rfl) | (rw [if_neg (by decide +kernel)]; exact ⟨rfl, rfl⟩))
    (fun os started H enc _ F => by rw [OpenClaim.pre_eq_preRow]; exact lifted os started H enc F)
theorem plain (f : FuncId) (fn : Func) (hf : Tryd.pinned.checked.prog.funcNamed "treadle/treadlelaw02.ShaTags" = some f) (hfn : Tryd.pinned.checked.prog.funcs[f]? = some fn) :
    false = Tryd.pinned.checked.prog.looks [] ∧ ∀ (j : Nat) t, fn.params[j]? = some t → Tryd.pinned.checked.prog.wantsStandIn t = false := by
  obtain rfl : f = 8 := Option.some.inj ((show Tryd.prog.funcNamed "treadle/treadlelaw02.ShaTags" = some 8 by kernel_rfl).symm.trans hf) |>.symm
  obtain rfl : fn = Tryd.f8 := (Option.some.inj (Tryd.func8.symm.trans hfn)).symm
  refine ⟨by kernel_rfl, fun j t ht => ?_⟩
  rw [Tryd.params8] at ht
  have hm : t = 68 := by simpa using Array.mem_of_getElem? ht
  rcases hm with rfl
  · exact (show Tryd.prog.wantsStandIn 68 = false by kernel_rfl)
theorem over : Rows.ShaTagsUptoCardSaid :=
  Claim7.holds_tied_plain_at .later [] _ _ _ _ said (fun _ h => by cases h) (by kernel_rfl) (fun _ h => by cases h) shaTagsUpto_row_tie rfl ⟨rfl, rfl⟩ (by kernel_rfl) rfl plain (by kernel_rfl)
theorem proved : Rows.ShaTagsUptoCardSaid := over
end Go.Proofs.YtnjimdjojinffaaDoor.shaTags
