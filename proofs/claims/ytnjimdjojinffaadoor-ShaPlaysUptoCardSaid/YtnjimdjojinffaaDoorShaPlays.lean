/-
  ShaPlays: a digest under way answers every call as told: whatever calls of two hashes (of bulk at most 1048576, the document's table with them), the law returns true, and what was there stays. (The document's table is tied to its text.)
-/
import Derived.Test.YtnjimdjojinffaaDoorShaOps
import Derived.Test.YtnjimdjojinffaaDoorShaTells
namespace Go.Proofs.YtnjimdjojinffaaDoor.shaPlays
open Go Vm
open Go.ChangeShapes Go.WideShapes Go.ChangeAt Go.RowKit
set_option maxRecDepth 100000
set_option linter.unusedVariables false
theorem law (x : Value) (os : List (Int × List (List UInt8))) (cells : List Value) (h : Heap) (T : Tab h) (R : OpsD (fun k => k < h.size) h x os cells) (hos : ∀ (i : Nat) (o : Int × List (List UInt8)), os[i]? = some o → o.2.flatten.length + o.2.length ≤ 1048576) :
    Fx Tryd.prog 5 #[x] h fun u h' => u = .bool true ∧ ExtH h h' := by
  refine fn_of 49 Tryd.func5 rfl (by kernel_rfl) rfl (by simp) ?_
  obtain ⟨a, c, hfx, hlen⟩ := R.fix
  have hmax : maxLen < 9223372036854775808 := by decide
  subst hfx
  refine cw_seq (cw_region rfl ?_)
  refine cw_seq (cw_region rfl ?_)
  conv => whnf
  refine ⟨_, rfl, _, new_fn h, ?_⟩
  rintro _ h1 ⟨p, rfl, hp, P1, x1⟩
  conv => whnf
  refine ⟨_, rfl, _, new_fn h1, ?_⟩
  rintro _ h2 ⟨q, rfl, hq, Q2, x2⟩
  conv => whnf
  refine ⟨_, rfl, #[.pointer (some ⟨p, 0, none⟩), .pointer (some ⟨q, 0, none⟩)], fun w => by kernel_rfl, ?_⟩
  conv => whnf
  refine ⟨_, rfl, _, rnew_fn h2, ?_⟩
  rintro _ h3 ⟨rfl, x3⟩
  conv => whnf
  refine ⟨_, rfl, _, rnew_fn h3, ?_⟩
  rintro _ h4 ⟨rfl, x4⟩
  conv => whnf
  refine ⟨_, rfl, (stateC Sha.H0 (.slice none 0 0) 0 ++ stateC Sha.H0 (.slice none 0 0) 0).toArray, fun w => by kernel_rfl, ?_⟩
  obtain ⟨f, hf⟩ : ∃ f : Nat → HI, f = fun i => if i = 0 then ⟨p, .slice none 0 0, Sha.H0, [], 0, .slice none 0 0⟩ else ⟨q, .slice none 0 0, Sha.H0, [], 0, .slice none 0 0⟩ := ⟨_, rfl⟩
  have ef : pairC f 0 = .pointer (some ⟨p, 0, none⟩) :: .pointer (some ⟨q, 0, none⟩) :: (stateC Sha.H0 (.slice none 0 0) 0 ++ (stateC Sha.H0 (.slice none 0 0) 0 ++ [.int .i64 ((0 : Nat) : Int)])) := by subst hf; rfl
  conv => whnf
  refine ⟨_, rfl, (Value.pointer (some ⟨p, 0, none⟩) :: .pointer (some ⟨q, 0, none⟩) :: (stateC Sha.H0 (.slice none 0 0) 0 ++ (stateC Sha.H0 (.slice none 0 0) 0 ++ [.int .i64 ((0 : Nat) : Int)]))).toArray, fun w => by kernel_rfl, ?_⟩
  rw [← ef]
  have z1 := x1.size; have z2 := x2.size; have z3 := x3.size; have z4 := x4.size
  have x04 := (x1.trans x2).trans (x3.trans x4)
  have I4 : PInv h.size h4 f := by
    have lp := P1.blk.lt
    have nil : ∀ j, j < 2 → (f j).v = .slice none 0 0 ∧ (f j).b = .slice none 0 0 := fun j hj => by subst hf; rcases two hj with rfl | rfl <;> exact ⟨rfl, rfl⟩
    refine ⟨fun j hj => ?_, fun i j hi hj hij => ⟨?_, fun k hk => by rw [(nil i hi).1] at hk; exact (ob_nil hk).elim⟩, fun i j hi hj k hk => by rw [(nil i hi).2] at hk; exact (ob_nil hk).elim⟩
    · subst hf
      rcases two hj with rfl | rfl
      · exact ⟨P1.more ((x2.trans x3).trans x4), OB.nil h4, rfl, Nat.zero_le _, hp, fun k hk => (ob_nil hk).elim, fun k hk => (ob_nil hk).elim⟩
      · exact ⟨Q2.more (x3.trans x4), OB.nil h4, rfl, Nat.zero_le _, by show h.size ≤ q; omega, fun k hk => (ob_nil hk).elim, fun k hk => (ob_nil hk).elim⟩
    · subst hf
      rcases two hi with rfl | rfl <;> rcases two hj with rfl | rfl
      · exact absurd rfl hij
      · show p ≠ q; omega
      · show q ≠ p; omega
      · exact absurd rfl hij
  have nil : ∀ j, j < 2 → (f j).b = .slice none 0 0 := fun j hj => by subst hf; rcases two hj with rfl | rfl <;> rfl
  clear ef
  clear hf
  conv => whnf
  intro h5 n5
  have z5 := n5.size
  obtain ⟨cs, hcs, y5⟩ : ∃ cs, cs.length = 23 ∧ Blk h5 h4.size cs 47 := ⟨_, rfl, n5.blk⟩
  have x5 := n5.ext
  clear n5
  conv => whnf
  refine ⟨_, _, y5, ⟨by rw [hcs]; show 0 + 23 ≤ 23; omega, by rfl, by simpa using pairC_one f 0 (by rw [nil 0 (by omega)]; rfl) (by rw [nil 1 (by omega)]; rfl)⟩, ?_⟩
  intro h6 w6
  replace w6 := w6.cast (l' := pairC f 0) (by simp [splice, hcs, pairC, stI, stateC])
  have z6 := w6.size
  have I6 := (I4.more x5).wrote w6 y5 (by decide) (by decide)
  have y6 := w6.new
  have low6 : ∀ b, b < h.size → h6[b]? = h[b]? := fun b hb => by rw [w6.block b (by omega), x5.block b (by omega), x04.block b hb]
  generalize hb4 : h4.size = b4 at *
  have hlb : h.size ≤ b4 := by omega
  have hT0 : 0 < h.size := T.lt
  clear w6 y5 I4 P1 Q2
  refine cw_seq (cw_region rfl ?_)
  conv => whnf
  refine ⟨⟨by decide, by decide⟩, ?_⟩
  conv => whnf
  refine ⟨_, y6.rd (o := 0) (pair_ptr f 0 0 (by omega)), ?_⟩
  conv => whnf
  refine ⟨.bool true, fun w => by kernel_rfl, ?_⟩
  conv => whnf
  refine ⟨⟨by decide, by decide⟩, ?_⟩
  conv => whnf
  refine ⟨_, y6.rd (o := 1) (pair_ptr f 0 1 (by omega)), ?_⟩
  conv => whnf
  refine ⟨.bool true, fun w => by kernel_rfl, ?_⟩
  conv => whnf
  refine cw_seq (cw_seq (cw_region rfl ?_))
  conv => whnf
  refine cw_block ?_
  refine cw_loop (S := Nat × (Nat → HI) × Nat) (fun s => [(0, .slice a os.length c), (3, .pointer (some ⟨b4, 0, none⟩)), (4, .bool true), (5, .int .i64 (s.1 : Int))])
    (fun s h' => s.1 ≤ os.length ∧ s.2.2 < 2 ∧ PInv h.size h' s.2.1 ∧ Blk h' b4 (pairC s.2.1 s.2.2) 47 ∧ (∀ b, b < h.size → h'[b]? = h[b]?) ∧ b4 < h'.size) (fun s => os.length - s.1) (0, f, 0) ⟨rfl, rfl, rfl, rfl, trivial⟩
    ⟨Nat.zero_le _, (show 0 < 2 by omega), I6, y6, low6, by omega⟩ ?_
  clear hp hq I6 y6 low6 nil z1 z2 z3 z4 z5 z6 x1 x2 x3 x4 x5 x04 hb4 h1 h2 h3 h4 h5 h6
  rintro ⟨t, f, i⟩ h1 ⟨ht, hi, I1, y1, low1, l1⟩
  simp only [] at ht hi I1 y1
  have x1 : h.size ≤ h1.size := by omega
  have T1 := T.old hT0 low1
  refine cw_seq (cw_seq (cw_region rfl ?_))
  refine ops_q rfl rfl (fun k hk => hk) ?_
  refine ops_q rfl rfl (fun k hk => hk) ?_
  refine ops_q rfl rfl (fun k hk => hk) ?_
  by_cases hlt : t < os.length
  · refine ops_q (v := .bool true) rfl rfl (fun k hk => say true (decide_eq_true (by show (t : Int) < (os.length : Int); omega)) hk) ?_
    conv => whnf
    refine cw_true rfl (cw_skip ?_)
    have R1 : OpsD (fun k => k < h.size) h1 (.slice a os.length c) os cells := by
      have cc : Chg (fun b => h.size ≤ b) h h1 := ⟨x1, fun b _ hn => low1 b (by omega)⟩
      exact R.keep cc (fun b hb => by omega)
    obtain ⟨gb, go, d, ms, v, pv, rfl, ho, hr, hp⟩ := R1.row t hlt
    have hpd : PD (fun k => k < h.size) h1 v ms pv := hp
    have hms := hos t _ ho
    refine cw_seq (cw_block ?_)
    refine cw_keeps (by kernel_rfl) 10 (fun _ => False) (.q 1 (.q 2 (.q 3 (.i2 0 (.i1 4 (.i1 5 (.q 6 (.q 7 (.q 8 (.i1 9 .leaf)))))) 4 (.i1 0 (.i1 5 (.q 6 (.q 7 (.q 8 (.i1 9 .leaf)))))))))) (by kernel_rfl) rfl ?_
    conv => whnf
    have hr' : ∀ {h' : Heap}, ExtH h1 h' → ∀ o, o = go + t * 2 → rdN h' gb o [.int .i64 d, v] := fun e o ho => by
      subst ho
      exact (e.chg (S := fun _ => False)).rdN hr (fun e => e)
    refine ⟨_, fun _ _ => rfl, ?_⟩
    conv => whnf
    refine ⟨_, fun _ _ => rfl, ?_⟩
    conv => whnf
    refine ⟨.pointer (some ⟨gb, go + ((t : Int)).toNat * 2, none⟩), fun _ _ => ⟨⟨by omega, by show (t : Int) < ((os.length : Nat) : Int); omega⟩, rfl⟩, ?_⟩
    conv => whnf
    refine ⟨?_, ?_⟩
    · intro h2 X1
      refine ⟨pairC f i, by rfl, (X1.blk y1).all, ExtP.refl _ _, ?_⟩
      intro h3 X2
      conv => whnf
      intro h4 X3
      refine ⟨[.int .i64 d, v], by rfl, hr' (X1.trans (X2.trans X3)) _ (show go + ((t : Int)).toNat * 2 = go + t * 2 by omega), ExtP.refl _ _, ?_⟩
      intro h5 X4
      conv => whnf
      intro h6 X5
      have xx := ((X1.trans X2).trans (X3.trans X4)).trans X5
      have zx := xx.size
      have I6 := I1.more xx
      have R6 := hpd.keep (xx.chg (S := fun _ => False)) (fun _ _ e => e)
      refine ⟨_, rfl, _, calls_fn (T1.more xx) hT0 (by omega) hi I6 d R6 hms, ?_⟩
      rintro _ h7 ⟨f', i', rfl, hi', I7, c7⟩
      have z7 := c7.size
      have y7 := I6.other hi c7 (xx.blk y1) (by decide) (by decide)
      have low7 := I6.low hi (by omega) c7
      refine ⟨⟨z7, fun _ e => e.elim⟩, ?_⟩
      intro h8 x8
      conv => whnf
      refine ⟨_, fun _ _ => rfl, ?_⟩
      conv => whnf
      refine ⟨_, fun _ _ => rfl, ?_⟩
      conv => whnf
      refine ⟨_, fun _ _ => rfl, ?_⟩
      conv => whnf
      intro h9 x9
      have I9 := I7.more (x8.trans x9)
      refine ⟨_, _, (x8.trans x9).blk y7, ⟨by show 0 + 23 ≤ 23; omega, by rfl, by simpa using pairC_one f' i' (OB.one (I9.ok 0 (by omega)).own) (OB.one (I9.ok 1 (by omega)).own)⟩, ?_⟩
      intro h10 w10
      replace w10 := w10.cast (l' := pairC f' i') (by simp [splice, pairC, stI, stateC])
      have z8 := x8.size; have z9 := x9.size; have z10 := w10.size
      refine ⟨⟨by omega, fun _ e => e.elim⟩, ?_⟩
      intro h11 x11
      conv => whnf
      intro h12 x12
      have z11 := x11.size; have z12 := x12.size
      have I12 := (I9.wrote w10 ((x8.trans x9).blk y7) (by decide) (by decide)).more (x11.trans x12)
      refine cw_region rfl ?_
      exact ⟨(t + 1, f', i'), ⟨rfl, rfl, rfl, slot_i64 _ _ (by simp only []; omega) (by simp only []; omega), trivial⟩, ⟨hlt, hi', I12, (x11.trans x12).blk w10.new, fun b hb => by
        rw [(x11.trans x12).block b (by omega), w10.block b (by omega), (x8.trans x9).block b (by omega), low7 b hb, xx.block b (by omega), low1 b hb], by omega⟩, by show os.length - (t + 1) < os.length - t; omega⟩
    · intro h2 X1
      refine ⟨[.int .i64 d, v], by rfl, hr' X1 _ (show go + ((t : Int)).toNat * 2 = go + t * 2 by omega), ExtP.refl _ _, ?_⟩
      intro h3 X2
      conv => whnf
      intro h4 X3
      refine ⟨pairC f i, by rfl, ((X1.trans (X2.trans X3)).blk y1).all, ExtP.refl _ _, ?_⟩
      intro h5 X4
      conv => whnf
      intro h6 X5
      have xx := ((X1.trans X2).trans (X3.trans X4)).trans X5
      have zx := xx.size
      have I6 := I1.more xx
      have R6 := hpd.keep (xx.chg (S := fun _ => False)) (fun _ _ e => e)
      refine ⟨_, rfl, _, calls_fn (T1.more xx) hT0 (by omega) hi I6 d R6 hms, ?_⟩
      rintro _ h7 ⟨f', i', rfl, hi', I7, c7⟩
      have z7 := c7.size
      have y7 := I6.other hi c7 (xx.blk y1) (by decide) (by decide)
      have low7 := I6.low hi (by omega) c7
      refine ⟨⟨z7, fun _ e => e.elim⟩, ?_⟩
      intro h8 x8
      conv => whnf
      refine ⟨_, fun _ _ => rfl, ?_⟩
      conv => whnf
      refine ⟨_, fun _ _ => rfl, ?_⟩
      conv => whnf
      refine ⟨_, fun _ _ => rfl, ?_⟩
      conv => whnf
      intro h9 x9
      have I9 := I7.more (x8.trans x9)
      refine ⟨_, _, (x8.trans x9).blk y7, ⟨by show 0 + 23 ≤ 23; omega, by rfl, by simpa using pairC_one f' i' (OB.one (I9.ok 0 (by omega)).own) (OB.one (I9.ok 1 (by omega)).own)⟩, ?_⟩
      intro h10 w10
      replace w10 := w10.cast (l' := pairC f' i') (by simp [splice, pairC, stI, stateC])
      have z8 := x8.size; have z9 := x9.size; have z10 := w10.size
      refine ⟨⟨by omega, fun _ e => e.elim⟩, ?_⟩
      intro h11 x11
      conv => whnf
      intro h12 x12
      have z11 := x11.size; have z12 := x12.size
      have I12 := (I9.wrote w10 ((x8.trans x9).blk y7) (by decide) (by decide)).more (x11.trans x12)
      refine cw_region rfl ?_
      exact ⟨(t + 1, f', i'), ⟨rfl, rfl, rfl, slot_i64 _ _ (by simp only []; omega) (by simp only []; omega), trivial⟩, ⟨hlt, hi', I12, (x11.trans x12).blk w10.new, fun b hb => by
        rw [(x11.trans x12).block b (by omega), w10.block b (by omega), (x8.trans x9).block b (by omega), low7 b hb, xx.block b (by omega), low1 b hb], by omega⟩, by show os.length - (t + 1) < os.length - t; omega⟩
  · refine ops_q (v := .bool false) rfl rfl (fun k hk => say false (decide_eq_false (by show ¬ (t : Int) < (os.length : Int); omega)) hk) ?_
    conv => whnf
    refine cw_false rfl (cw_exit ?_)
    refine cw_seq (cw_region rfl ?_)
    conv => whnf
    refine ⟨pairC f i, by rfl, y1.all, ?_⟩
    conv => whnf
    refine ⟨_, rfl, _, tells_fn T1 I1, ?_⟩
    rintro _ h2 ⟨rfl, x2⟩
    conv => whnf
    refine ⟨_, rfl, _, awake_fn h2, ?_⟩
    rintro _ h3 ⟨rfl, x3⟩
    have x13 := x2.trans x3
    have z13 := x13.size
    exact cw_ret ⟨rfl, ⟨by omega, fun b hb => by rw [x13.block b (by omega), low1 b hb]⟩⟩
--ROW 'treadlelaw02.ShaPlays' 'shaPlays' 'ops' 'uptocard' 'law v0 l0 cells0 W.heap (tab_of hL) R0 (fun i o ho => by have := C0 i o ho; omega)'
theorem own : ownKnob Tryd.prog.godebug = none := by kernel_rfl
theorem laidOut : laidOutB Tryd.prog = true := by kernel_rfl
theorem contract (H : Type) (enc : TypeId × Value → H) (W : World) (base : Nat) (args : Array Value) (ds gs : List (DataW H)) (before : List MemPlace) (hk : Rows.uptoSmall H (ds ++ gs) = true)
    (hval0 : ∀ (j : Nat) t v, Tryd.f5.params[j]? = some t → args[j]? = some v → Value.okWide Tryd.prog W .any base t v)
    (hW : DataW.Whole enc Tryd.prog Tryd.f5.params.toList Rows.shaPlaysSpec.vars false W args.toList ds gs before) (hL : laidMetH Tryd.prog Rows.shaPlaysUptoRow.laid W) :
    Calls Tryd.prog 5 args W fun e W' => ∃ v, e = .returned v ∧ Rows.shaPlaysSpec.post enc Tryd.prog Tryd.f5 false true false false W args v W' := by
  have hval := hval0
  have hW' := hW
  obtain ⟨p, q, hA0, hV, rfl, hfz, hnd⟩ := hW
  have hA : DataW.TrodAll enc Tryd.prog W 0 (fun _ => true) true Tryd.f5.params.toList args.toList ds p := hA0
  rw [Tryd.params5] at hA hval
  obtain ⟨v0, vs0, d0, ds0, p0, q0, hargs, rfl, rfl, h0, r0⟩ := trodAll_cons hA
  obtain ⟨rfl, rfl, rfl⟩ := trodAll_nil r0
  obtain rfl : args = #[v0] := by cases args; simp_all
  obtain ⟨rfl, rfl⟩ := trodVars_none hV
  have k0 := h0
  have lt0 : ∀ x ∈ p0, x.block < W.heap.size := by obtain ⟨m, hm⟩ := k0; exact DataW.trod_lt m _ _ _ hm
  obtain ⟨l0, cells0, R0, B0, C0⟩ := open_ops (hval 0 36 v0 rfl rfl) h0
  have hb := hk
  simp only [Rows.uptoSmall, decide_eq_true_eq, List.append_nil, Rows.uptoBulkAll, Rows.uptoBulk] at hb
  clear hA0 hval0
  refine (Fx.calls (by kernel_rfl) (law v0 l0 cells0 W.heap (tab_of hL) R0 (fun i o ho => by have := C0 i o ho; omega))).mono fun e W' ⟨he, bel⟩ => ?_
  subst he
  exact ⟨_, rfl, _, _, _, [], _, [], hW', trodAll_mk1 (shut_bool Tryd.underlying4 _), (trodAll_cons_mk (Below.trod laidOut (by kernel_rfl) (of_decide_eq_true (by kernel_rfl)) k0 bel lt0) trodAll_mk0), rfl, bel.frame _, fun h => by cases h⟩
theorem laid_met (os : Os) : laidMet Tryd.prog Rows.shaPlaysUptoRow.laid ((laidWorld os).forCall (fun _ _ => 0) ⟨#[], #[Value.slice none 0 0], []⟩).memory :=
  laidMet_of_run' 8 (by kernel_rfl) (by kernel_rfl)
theorem reads (os : Os) {H : Type} (enc : TypeId × Value → H) : ∃ places, DataW.whole enc Tryd.prog ((laidWorld os).forCall (fun _ _ => 0) ⟨#[], #[Value.slice none 0 0], []⟩).memory Tryd.f5.params.toList Rows.shaPlaysSpec.vars false (#[Value.slice none 0 0] : Array Value).toList 8 = some ([.nil], [], places) :=
  ⟨[], by kernel_rfl⟩
theorem lifted (os : Os) (started : os.Started) (H : Type) (enc : TypeId × Value → H) (F : Stop.Interp) :
    ReturnsInHanded {} Tryd.checked os 5 .any ((Rows.OpenSpec.upto Rows.shaPlaysSpec).preRow enc Tryd.prog Tryd.f5 Rows.shaPlaysUptoRow.domain false Rows.shaPlaysUptoRow.laid) (((Rows.OpenSpec.upto Rows.shaPlaysSpec).at F).post enc Tryd.prog Tryd.f5 false true false false) := by
  obtain ⟨places, hx⟩ := reads os enc
  refine returnsInHanded_of_row (C := Tryd.checked) (s := Rows.OpenSpec.upto Rows.shaPlaysSpec) own started (by kernel_rfl) Tryd.func5
    (witness_row_at (enc := enc) (C := Tryd.checked) false (laidWorld os) #[Value.slice none 0 0] rfl (by kernel_rfl) (by kernel_rfl) (by kernel_rfl)
      (OpenSpec.preRow_of_cond 8 hx (by kernel_rfl) (fun k hk => by cases hk; kernel_rfl) (by kernel_rfl) (laid_met os))) ?_
  intro W base args ds gs before hval hW _ hcond _ hL _ _
  exact contract H enc W base args ds gs before (hcond _ rfl) hval hW hL
theorem said : Rows.shaPlaysUptoRow.holds Tryd.pinned (Rows.OpenSpec.upto Rows.shaPlaysSpec) :=
  OpenClaim.holds_of_cond 5 Tryd.f5 rfl rfl rfl rfl rfl rfl rfl ⟨rfl, rfl, rfl, rfl, rfl⟩ rfl rfl rfl rfl rfl (by kernel_rfl) Tryd.func5 (by kernel_rfl)
    (of_decide_eq_true (by kernel_rfl)) (by unfold Func.isWrapper; first | (rw [if_pos (by decide +kernel)]; kernel_rfl) | (rw [if_neg (by decide +kernel)]; exact ⟨rfl, rfl⟩))
    (fun os started H enc _ F => by rw [OpenClaim.pre_eq_preRow]; exact lifted os started H enc F)
theorem plain (f : FuncId) (fn : Func) (hf : Tryd.pinned.checked.prog.funcNamed "treadle/treadlelaw02.ShaPlays" = some f) (hfn : Tryd.pinned.checked.prog.funcs[f]? = some fn) :
    false = Tryd.pinned.checked.prog.looks [] ∧ ∀ (j : Nat) t, fn.params[j]? = some t → Tryd.pinned.checked.prog.wantsStandIn t = false := by
  obtain rfl : f = 5 := Option.some.inj ((show Tryd.prog.funcNamed "treadle/treadlelaw02.ShaPlays" = some 5 by kernel_rfl).symm.trans hf) |>.symm
  obtain rfl : fn = Tryd.f5 := (Option.some.inj (Tryd.func5.symm.trans hfn)).symm
  refine ⟨by kernel_rfl, fun j t ht => ?_⟩
  rw [Tryd.params5] at ht
  have hm : t = 36 := by simpa using Array.mem_of_getElem? ht
  rcases hm with rfl
  · exact (show Tryd.prog.wantsStandIn 36 = false by kernel_rfl)
theorem over : Rows.ShaPlaysUptoCardSaid :=
  Claim7.holds_tied_plain_at .later [] _ _ _ _ said (fun _ h => by cases h) (by kernel_rfl) (fun _ h => by cases h) shaPlaysUpto_row_tie rfl ⟨rfl, rfl⟩ (by kernel_rfl) rfl plain (by kernel_rfl)
theorem proved : Rows.ShaPlaysUptoCardSaid := over
end Go.Proofs.YtnjimdjojinffaaDoor.shaPlays
