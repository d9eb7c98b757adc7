/-
  The contract of the laws' calls: whatever is asked of a pair, it answers as told.
-/
import Derived.Test.YtnjimdjojinffaaDoorShaPair
import Derived.Test.YtnjimdjojinffaaDoorShaTook
namespace Go.Proofs.YtnjimdjojinffaaDoor
open Go Vm
set_option maxRecDepth 100000
set_option linter.unusedVariables false
theorem reset_any {h : Heap} {p : Nat} {v : Value} {s : Sha.S8} {l : List UInt8} {n : Nat} (H : HashAt h p v s l n) : Fx Tryd.prog 21 #[.pointer (some ⟨p, 0, none⟩)] h fun _ h' => HashAt h' p (.slice none 0 0) Sha.H0 [] 0 ∧ Chg (fun b => b = p) h h' :=
  reset_fn H.blk rfl
set_option maxHeartbeats 1000000 in
theorem calls_fn {base : Nat} {h : Heap} (T : Tab h) (hb0 : 0 < base) (hb : base ≤ h.size) {f : Nat → HI} {i : Nat} (hi : i < 2) (I : PInv base h f) (d : Int) {x : Value} {ms : List (List UInt8)} {pv : List Value} (R : PD (fun k => k < base) h x ms pv)
    (hms : ms.flatten.length + ms.length ≤ 1048576) :
    Fx Tryd.prog 19 #[.agg (pairC f i).toArray, .agg #[.int .i64 d, x]] h fun u h' => ∃ f' i', u = .tuple #[.agg (pairC f' i').toArray, .bool true] ∧ i' < 2 ∧ PInv base h' f' ∧ Chg (fun k => k = (f i).p ∨ ob (f i).v k) h h' := by
  refine fn_of 109 Tryd.func19 rfl (by kernel_rfl) rfl (by simp) ?_
  obtain ⟨xa, xc, hfx, hlen⟩ := R.fix
  refine cw_seq (cw_region rfl ?_)
  conv => whnf
  intro h1 n1
  conv => whnf
  intro h2 n2
  conv => whnf
  intro h3 n3
  have z1 := n1.size; have z2 := n2.size; have z3 := n3.size
  have x3 := (n1.ext.trans n2.ext).trans n3.ext
  have y1 : Blk h3 h.size (pairC f i) 47 := n3.ext.blk (n2.ext.blk n1.blk)
  have y2 : Blk h3 h1.size [.int .i64 d, x] 51 := n3.ext.blk n2.blk
  obtain ⟨cs, hcs, y3⟩ : ∃ cs, cs.length = 23 ∧ Blk h3 h2.size cs 47 := ⟨_, rfl, n3.blk⟩
  clear n1 n2 n3
  generalize hh1 : h1.size = b1 at *
  generalize hh2 : h2.size = b2 at *
  refine cw_seq (cw_drawn (by kernel_rfl) 12 (fun i => i == 10) (List.range 12) (by kernel_rfl) rfl ?_)
  conv => whnf
  refine ⟨_, y1.rd (o := 22) (pair_n f i), ?_⟩
  conv => whnf
  refine ⟨⟨by omega, by omega⟩, ?_⟩
  conv => whnf
  refine ⟨_, y1.rd (o := 0 + ((i : Int)).toNat) (by rw [show 0 + ((i : Int)).toNat = i by omega]; exact pair_ptr f i i hi), ?_⟩
  conv => whnf
  refine ⟨_, y1.rd (o := 22) (pair_n f i), ?_⟩
  conv => whnf
  refine ⟨⟨by omega, by omega⟩, ?_⟩
  conv => whnf
  refine ⟨stI (f i), by rfl, pair_at y1 hi (show 0 + 2 + ((i : Int)).toNat * 10 = 2 + i * 10 by omega), ?_⟩
  conv => whnf
  intro h4 x4 h5 n5
  refine ⟨n5.ext.toU _, ?_⟩
  intro h6 x6
  conv => whnf
  intro h7 x7
  have z4 := x4.size; have z5 := n5.size; have z6 := x6.size; have z7 := x7.size
  have y5 : Blk h7 h4.size (stateC ⟨0, 0, 0, 0, 0, 0, 0, 0⟩ (.slice none 0 0) 0) 43 := x7.blk (x6.blk n5.blk)
  have x37 := ((x4.trans n5.ext).trans x6).trans x7
  clear n5 x4 x6 x7
  generalize hb4 : h4.size = b4 at *
  conv => whnf
  have A := (I.ok i hi)
  have hone : ∀ j, j < 2 → (f j).b.oneCell' = true := fun j hj => OB.one (I.ok j hj).own
  refine ⟨_, _, y5, ⟨(show (10 : Nat) ≤ 10 by decide), by rfl, stI_one _ (hone i hi)⟩, ?_⟩
  intro h8 w8
  replace w8 := w8.cast (l' := stI (f i)) (by rfl)
  have z8 := w8.size
  have y8 := w8.new
  have y18 := w8.blk (x37.blk y1) (by omega)
  have y28 := w8.blk (x37.blk y2) (by omega)
  have y38 := w8.blk (x37.blk y3) (by omega)
  have x08 : ExtH h h8 := ⟨by omega, fun b hb => by rw [w8.block b (by omega), x37.block b (by omega), x3.block b hb]⟩
  have I8 := I.more x08
  have A8 := I8.ok i hi
  have R8 := R.keep (x08.chg (S := fun _ => False)) (fun _ _ e => e)
  have hl64 : (f i).l.length < 64 := by rw [A.len]; omega
  have hA := A.max
  have lp : (f i).p < h.size := A.hash.blk.lt
  have lv : ∀ k, ob (f i).v k → k < h.size := fun k hk => OwnS.lt A.hash.own hk
  have lb : ∀ j, j < 2 → ∀ k, ob (f j).b k → k < h.size := fun j hj k hk => OwnS.lt (I.ok j hj).own hk
  have lb4 : b2 < b4 := by omega
  have l8 := y8.lt
  clear w8 y5 y1 y2 y3 x37 x3 z3 z4 z5 z6 z7 z8 hb4 h3 h4 h5 h6 h7
  refine cw_seq (cw_seq (cw_region rfl ?_))
  conv => whnf
  refine ⟨_, y28.rd (o := 0) rfl, ?_⟩
  refine cw_keep [(2, .pointer (some ⟨h.size, 0, none⟩)), (3, .pointer (some ⟨b1, 0, none⟩)), (4, .pointer (some ⟨b2, 0, none⟩)), (6, .pointer (some ⟨(f i).p, 0, none⟩)), (7, .pointer (some ⟨b4, 0, none⟩)), (23, .int .i64 d)]
    ⟨rfl, rfl, rfl, rfl, rfl, rfl, trivial⟩ ?_
  have wrt : (fun k => k = (f i).p ∨ ob (f i).v k) = (fun k => k = (f i).p ∨ ob (f i).v k) := rfl
  have low : ∀ k, (k = (f i).p ∨ ob (f i).v k) → k < h.size := fun k e => e.elim (fun e => by omega) (fun e => lv k e)
  have hib : ∀ k, base ≤ k ∨ ¬ (k = (f i).p ∨ ob (f i).v k) := fun k => by
    by_cases e : k = (f i).p ∨ ob (f i).v k
    · exact .inl (e.elim (fun e => by have := A.lp; omega) (fun e => A.lv k e))
    · exact .inr e
  refine cw_block (cw_seq (cw_region rfl ?_))
  by_cases d0 : d = 0
  · refine cw_beq_yes rfl d0 ?_
    -- it takes bytes
    refine cw_seq (cw_region rfl ?_)
    conv => whnf
    refine ⟨_, y28.rd (o := 1) rfl, ?_⟩
    conv => whnf
    refine ⟨_, rfl, _, parts_fn R8 (by omega), ?_⟩
    rintro v9 h9 ⟨qv, o9, x9⟩
    have z9 := x9.size
    have z8 := x08.size
    refine cw_seq (cw_region rfl ?_)
    conv => whnf
    refine ⟨_, rfl, _, write_any (A8.hash.more x9) o9.pd (fun b hb => ⟨hb.2, by omega, fun e => by have := lv b e; omega⟩) hl64 (by omega) hA, ?_⟩
    rintro _ h10 ⟨rfl, v10, H10, c10, f10⟩
    have z10 := c10.size
    have hok := wAfter_ok (s := (f i).s) ms.flatten A.len A.max
    generalize hW : wAfter (f i).s (f i).l (f i).n ms.flatten = W at *
    have x010 : ∀ b, b < base → h10[b]? = h[b]? := fun b hb' => by rw [c10.block b (by omega) ((hib b).elim (fun e => by omega) id), x9.block b (by omega), x08.block b (by omega)]
    have T10 := T.old hb0 x010
    have y410 := c10.blk (x9.blk y8) (fun e => by have := low _ e; omega)
    have y110 := c10.blk (x9.blk y18) (fun e => by have := low _ e; omega)
    have y210 := c10.blk (x9.blk y28) (fun e => by have := low _ e; omega)
    have y310 := c10.blk (x9.blk y38) (fun e => by have := low _ e; omega)
    have R10 : PD (fun k => k < base) h10 x ms pv := by
      have c : Chg (fun b => base ≤ b) h h10 := ⟨by omega, fun b _ hn => x010 b (by omega)⟩
      exact R.keep c (fun b hb => by omega)
    have B10 : OB h10 (f i).b (f i).l := OwnS.keep (OwnS.more A8.own x9) c10 (fun k hk e => e.elim (fun e => OwnS.ne A.own A.hash.blk (by decide) (e ▸ hk)) (fun e => I.buf i i hi hi k hk e))
    refine cw_seq (cw_region rfl ?_)
    conv => whnf
    refine ⟨_, by rfl, y410.all, ?_⟩
    conv => whnf
    refine ⟨_, y210.rd (o := 1) rfl, ?_⟩
    conv => whnf
    refine ⟨_, rfl, _, rwrite_any T10 B10 R10 hl64 (by omega) hA, ?_⟩
    rw [hW]
    rintro _ h11 ⟨v11, rfl, o11, x11, f11⟩
    have z11 := x11.size
    conv => whnf
    intro h12 n12
    have z12 := n12.size
    have y12 : Blk h12 h11.size (stateC ⟨0, 0, 0, 0, 0, 0, 0, 0⟩ (.slice none 0 0) 0) 43 := n12.blk
    conv => whnf
    refine ⟨_, _, y12, ⟨(show (10 : Nat) ≤ 10 by decide), by rfl, stateC_one _ _ _ (OB.one o11)⟩, ?_⟩
    intro h13 w13
    replace w13 := w13.cast (l' := stateC W.1 v11 W.2.2.1) (by rfl)
    have z13 := w13.size
    have x1013 : ExtH h10 h13 := ⟨by omega, fun b hb => by rw [w13.block b (by omega), n12.block b (by omega), x11.block b hb]⟩
    have y13 := w13.new
    have o13 : OB h13 v11 W.2.1 := OwnS.keep (OwnS.more o11 n12.ext) w13.chg (fun b hb e => by have := OwnS.lt o11 hb; omega)
    refine cw_seq (cw_region rfl ?_)
    conv => whnf
    refine ⟨_, (x1013.blk y110).rd (o := 22) (pair_n f i), ?_⟩
    conv => whnf
    refine ⟨_, by rfl, y13.all, ?_⟩
    conv => whnf
    refine ⟨⟨by omega, by omega⟩, ?_⟩
    conv => whnf
    obtain ⟨X, hX⟩ : ∃ X : HI, X = ⟨(f i).p, v10, W.1, W.2.1, W.2.2.1, v11⟩ := ⟨_, rfl⟩
    have hst : stI X = stateC W.1 v11 W.2.2.1 := by rw [hX]; rfl
    refine ⟨_, _, x1013.blk y110, ⟨by show 0 + 2 + ((i : Int)).toNat * 10 + 10 ≤ 23; omega, by rfl, stateC_one _ _ _ (OB.one o11)⟩, ?_⟩
    intro h14 w14
    replace w14 := w14.cast (l' := pairC (upd f i X) i) (by
      rw [← pair_splice f i i X hi (by rw [hX]), hst]
      exact congrArg (fun o => splice (pairC f i) o (stateC W.1 v11 W.2.2.1)) (show 0 + 2 + ((i : Int)).toNat * 10 = 2 + i * 10 by omega))
    have z14 := w14.size
    have y14 := w14.new
    have y214 := w14.blk (x1013.blk y210) (by omega)
    have y314 := w14.blk (x1013.blk y310) (by omega)
    have x914 : ∀ b, b < base → h14[b]? = h[b]? := fun b hb' => by rw [w14.block b (by omega), x1013.block b (by omega), x010 b hb']
    have lowW : ∀ b, b < h.size → ¬ (b = (f i).p ∨ ob (f i).v b) → h14[b]? = h[b]? := fun b hb' hn => by rw [w14.block b (by omega), x1013.block b (by omega), c10.block b (by omega) hn, x9.block b (by omega), x08.block b hb']
    have I14 : PInv base h14 (upd f i X) := by
      have J9 := I8.more x9
      refine (J9.put hi ((c10.trans (x1013.chg (S := fun _ => False))).mono (fun b _ e => e.elim id False.elim)) X ?_ (by rw [hX]) ?_ ?_ ?_).wrote w14 (x1013.blk y110) (by decide) (by decide)
      · subst hX
        exact ⟨H10.more x1013, o13, hok.1, hok.2, A.lp, fun k hk => (f10 k hk).elim (fun e => A.lv k e) (fun e => by omega), fun k hk => (f11 k hk).elim (fun e => A.lb k e) (fun e => by omega)⟩
      · subst hX; exact f10
      · subst hX
        intro k hk e
        have h2 := OwnS.lt H10.own e
        rcases f11 k hk with h1 | h1
        · rcases f10 k e with h3 | h3
          · exact I.buf i i hi hi k h1 h3
          · have := lb i hi k h1; omega
        · omega
      · subst hX
        intro j hj hji k hk e
        have h2 := OwnS.lt (I.ok j hj).hash.own e
        rcases f11 k hk with h1 | h1
        · exact I.buf i j hi hj k h1 e
        · omega
    have R14 : PD (fun k => k < base) h14 x ms pv := by
      have c : Chg (fun b => base ≤ b) h h14 := ⟨by omega, fun b _ hn => x914 b (by omega)⟩
      exact R.keep c (fun b hb => by omega)
    have o914 : OwnP h8.size h14 v9 ms qv := ((o9.keep c10 (fun b hb e => by have := low _ e; omega)).more x1013).keep w14.chg (fun b hb e => by omega)
    have hone14 : ∀ y ∈ pairC (upd f i X) i, y.oneCell' = true := pairC_one _ _ (OB.one (I14.ok 0 (by omega)).own) (OB.one (I14.ok 1 (by omega)).own)
    clear w14 w13 n12 y12 y13 c10 x1013 x11 hX hst H10 o13 o11 f10 f11
    refine cw_seq (cw_keeps (by kernel_rfl) 12 (fun k => k ≠ b2) (.q 0 (.q 1 (.q 2 (.q 3 (.q 4 (.q 5 (.q 6 (.q 7 (.q 8 (.q 9 (.q 10 (.i1 11 .leaf)))))))))))) (by kernel_rfl) rfl ?_)
    conv => whnf
    refine ⟨.agg (pairC (upd f i X) i).toArray, fun h' e => ⟨pairC (upd f i X) i, by rfl, (ExtP.blk e y14 (show h.size ≠ b2 by omega)).all, rfl⟩, ?_⟩
    conv => whnf
    refine ⟨_, fun h' e => rfl, ?_⟩
    conv => whnf
    refine ⟨_, fun h' e => ⟨_, rfl, _, Fx.q (fun h1 x => num_fn _ h1), rfl⟩, ?_⟩
    conv => whnf
    refine ⟨_, fun h' e => rfl, ?_⟩
    conv => whnf
    refine ⟨.bool true, fun h' e => ?_, ?_⟩
    · show Value.bool (W.2.2.2 == W.2.2.2) = _
      rw [beq_self_eq_true]
    conv => whnf
    refine ⟨_, fun h' e => rfl, ?_⟩
    conv => whnf
    refine ⟨_, fun h' e => rfl, ?_⟩
    conv => whnf
    refine ⟨_, fun h' e => rfl, ?_⟩
    conv => whnf
    refine ⟨_, fun h' e => ⟨_, (ExtP.blk e y214 (show b1 ≠ b2 by omega)).rd (o := 1) rfl, rfl⟩, ?_⟩
    conv => whnf
    refine ⟨_, fun h' e => ⟨_, rfl, _, fun h'' e'' => sameparts_fn ((o914.keep (ExtP.chg e) (fun b hb hn => hn (show b ≠ b2 by omega))).more e'').pd ((R14.keep (ExtP.chg e) (fun b hb hn => hn (show b ≠ b2 by omega))).keep (e''.chg (S := fun _ => False)) (fun _ _ e => e)), rfl⟩, ?_⟩
    rw [decide_eq_true rfl]
    conv => whnf
    refine ⟨_, fun h' e => rfl, ?_⟩
    conv => whnf
    intro h15 x15
    refine ⟨_, _, x15.blk y314, ⟨by rw [hcs]; show 0 + 23 ≤ 23; omega, by rfl, by simpa using hone14⟩, ?_⟩
    intro h16 w16
    replace w16 := w16.cast (l' := pairC (upd f i X) i) (by simp [splice, hcs, pairC, stI, stateC])
    have z15 := x15.size
    have z16 := w16.size
    refine ⟨⟨by omega, fun b hK hb => w16.block b hK⟩, ?_⟩
    intro h17 x17
    have z17 := x17.size
    conv => whnf
    intro h18 x18
    have z18 := x18.size
    refine cw_ret ?_
    conv => whnf
    refine ⟨_, by rfl, ((x17.trans x18).blk w16.new).all, ?_⟩
    exact ⟨upd f i X, i, rfl, hi, ((I14.more x15).wrote w16 (x15.blk y314) (by decide) (by decide)).more (x17.trans x18), ⟨by omega, fun b hb' hn => by rw [(x17.trans x18).block b (by omega), w16.block b (by omega), x15.block b (by omega), lowW b hb' hn]⟩⟩
  · refine cw_beq_no rfl d0 ?_
    have z8 := x08.size
    have low8 : ∀ b, b < h.size → ¬ (b = (f i).p ∨ ob (f i).v b) → h8[b]? = h[b]? := fun b hb' _ => x08.block b (by omega)
    have hone8 : ∀ y ∈ pairC f i, y.oneCell' = true := pairC_one _ _ (hone 0 (by omega)) (hone 1 (by omega))
    have T8 := T.more x08
    have nb : ∀ {h' : Heap}, ExtP (fun k => k ≠ b2) h8 h' → HOK base h' (f i) := fun e => A8.keep (ExtP.chg e) (fun hn => hn (show (f i).p ≠ b2 by omega)) (fun k hk hn => hn (show k ≠ b2 by have := lv k hk; omega)) (fun k hk hn => hn (show k ≠ b2 by have := lb i hi k hk; omega))
    have nt : ∀ {h' : Heap}, ExtP (fun k => k ≠ b2) h8 h' → Tab h' := fun e => T8.old hb0 (fun b hb' => e.block b (show b ≠ b2 by omega) (by omega))
    refine cw_seq (cw_region rfl ?_)
    by_cases d1 : d = 1
    · refine cw_beq_yes rfl d1 ?_
      -- its sum
      refine cw_seq (cw_keeps (by kernel_rfl) 7 (fun k => k ≠ b2) (.q 0 (.q 1 (.q 2 (.q 3 (.q 4 (.q 5 (.i1 6 .leaf))))))) (by kernel_rfl) rfl ?_)
      conv => whnf
      refine ⟨.agg (pairC f i).toArray, fun h' e => ⟨pairC f i, by rfl, (ExtP.blk e y18 (show h.size ≠ b2 by omega)).all, rfl⟩, ?_⟩
      conv => whnf
      refine ⟨_, fun h' e => rfl, ?_⟩
      conv => whnf
      refine ⟨_, fun h' e => ⟨_, rfl, _, fun h'' e'' => sum_fn ((nb e).hash.more e'') (by omega) hA, rfl⟩, ?_⟩
      conv => whnf
      refine ⟨.agg (stI (f i)).toArray, fun h' e => ⟨stI (f i), by rfl, (ExtP.blk e y8 (show b4 ≠ b2 by omega)).all, rfl⟩, ?_⟩
      conv => whnf
      refine ⟨_, fun h' e => ⟨_, rfl, _, fun h'' e'' => rsum_fn ((nt e).more e'') (OB.r (OwnS.more (nb e).own e'')) (by omega) hA, rfl⟩, ?_⟩
      conv => whnf
      refine ⟨.bool true, fun h' e => ⟨.bool true, fun w => dig_same _ _ _ rfl w, rfl⟩, ?_⟩
      conv => whnf
      intro h15 x15
      refine ⟨_, _, x15.blk y38, ⟨by rw [hcs]; show 0 + 23 ≤ 23; omega, by rfl, by simpa using hone8⟩, ?_⟩
      intro h16 w16
      replace w16 := w16.cast (l' := pairC f i) (by simp [splice, hcs, pairC, stI, stateC])
      have z15 := x15.size
      have z16 := w16.size
      refine ⟨⟨by omega, fun b hK hb => w16.block b hK⟩, ?_⟩
      intro h17 x17
      have z17 := x17.size
      conv => whnf
      intro h18 x18
      have z18 := x18.size
      refine cw_ret ?_
      conv => whnf
      refine ⟨_, by rfl, ((x17.trans x18).blk w16.new).all, ?_⟩
      exact ⟨f, i, rfl, hi, ((I8.more x15).wrote w16 (x15.blk y38) (by decide) (by decide)).more (x17.trans x18), ⟨by omega, fun b hb' hn => by rw [(x17.trans x18).block b (by omega), w16.block b (by omega), x15.block b (by omega), low8 b hb' hn]⟩⟩
    · refine cw_beq_no rfl d1 ?_
      refine cw_seq (cw_region rfl ?_)
      by_cases d2 : d = 2
      · refine cw_beq_yes rfl d2 ?_
        -- its state
        refine cw_seq (cw_drawn (by kernel_rfl) 5 (fun i => i == 2 || i == 4) [0, 1, 3, 2, 4] (by kernel_rfl) rfl ?_)
        conv => whnf
        refine ⟨pairC f i, by rfl, y18.all, ?_⟩
        conv => whnf
        refine ⟨stI (f i), by rfl, y8.all, ?_⟩
        conv => whnf
        intro h9 x9
        refine ⟨_, rfl, _, state_fn (A8.hash.more x9) (by omega), ?_⟩
        rintro _ h10 ⟨v10, rfl, o10, x10, f10⟩
        refine ⟨x10.toU _, ?_⟩
        intro h11 x11
        conv => whnf
        intro h12 x12
        refine ⟨_, rfl, _, same_fn (OB.r (OwnS.more o10 (x11.trans x12))) (OB.r (OwnS.more A8.own ((x9.trans x10).trans (x11.trans x12)))), ?_⟩
        rintro _ h13 ⟨rfl, x13⟩
        refine ⟨x13.toU _, ?_⟩
        intro h14 x14
        conv => whnf
        intro h15 x15
        have x815 := (((x9.trans x10).trans (x11.trans x12)).trans x13).trans (x14.trans x15)
        refine ⟨_, _, x815.blk y38, ⟨by rw [hcs]; show 0 + 23 ≤ 23; omega, by rfl, by simpa using hone8⟩, ?_⟩
        intro h16 w16
        replace w16 := w16.cast (l' := pairC f i) (by simp [splice, hcs, pairC, stI, stateC])
        have z15 := x815.size
        have z16 := w16.size
        refine cw_ret ?_
        conv => whnf
        refine ⟨_, by rfl, w16.new.all, ?_⟩
        exact ⟨f, i, rfl, hi, (I8.more x815).wrote w16 (x815.blk y38) (by decide) (by decide), ⟨by omega, fun b hb' hn => by rw [w16.block b (by omega), x815.block b (by omega), low8 b hb' hn]⟩⟩
      · refine cw_beq_no rfl d2 ?_
        refine cw_seq (cw_region rfl ?_)
        by_cases d3 : d = 3
        · refine cw_beq_yes rfl d3 ?_
          -- it begins anew
          refine cw_seq (cw_region rfl ?_)
          conv => whnf
          refine ⟨_, rfl, _, reset_any A8.hash, ?_⟩
          rintro _ h9 ⟨H9, c9⟩
          have z9 := c9.size
          have y19 := c9.blk y18 (by omega)
          have y39 := c9.blk y38 (by omega)
          refine cw_drawn (by kernel_rfl) 5 (fun _ => false) (List.range 5) (by kernel_rfl) rfl ?_
          conv => whnf
          refine ⟨_, y19.rd (o := 22) (pair_n f i), ?_⟩
          conv => whnf
          refine ⟨_, rfl, _, fun h' _ => rnew_fn h', ?_⟩
          conv => whnf
          refine ⟨⟨by omega, by omega⟩, ?_⟩
          conv => whnf
          intro h10 x10
          have z10 := x10.size
          conv => whnf
          obtain ⟨X, hX⟩ : ∃ X : HI, X = ⟨(f i).p, .slice none 0 0, Sha.H0, [], 0, .slice none 0 0⟩ := ⟨_, rfl⟩
          have hst : stI X = stateC Sha.H0 (.slice none 0 0) 0 := by rw [hX]; rfl
          refine ⟨_, _, x10.blk y19, ⟨by show 0 + 2 + ((i : Int)).toNat * 10 + 10 ≤ 23; omega, by rfl, stateC_one _ _ _ rfl⟩, ?_⟩
          intro h11 w11
          replace w11 := w11.cast (l' := pairC (upd f i X) i) (by
            rw [← pair_splice f i i X hi (by rw [hX]), hst]
            exact congrArg (fun o => splice (pairC f i) o (stateC Sha.H0 (.slice none 0 0) 0)) (show 0 + 2 + ((i : Int)).toNat * 10 = 2 + i * 10 by omega))
          have z11 := w11.size
          have low11 : ∀ b, b < h.size → ¬ (b = (f i).p ∨ ob (f i).v b) → h11[b]? = h[b]? := fun b hb' hn => by rw [w11.block b (by omega), x10.block b (by omega), c9.block b (by omega) (fun e => hn (.inl e)), low8 b hb' hn]
          have I11 : PInv base h11 (upd f i X) := by
            refine (I8.put hi ((c9.trans (x10.chg (S := fun _ => False))).mono (fun b _ e => e.elim (fun e => .inl e) False.elim)) X ?_ (by rw [hX]) ?_ ?_ ?_).wrote w11 (x10.blk y19) (by decide) (by decide)
            · subst hX
              exact ⟨H9.more x10, OB.nil h10, rfl, Nat.zero_le _, A.lp, fun k hk => (ob_nil hk).elim, fun k hk => (ob_nil hk).elim⟩
            · subst hX; exact fun k hk => (ob_nil hk).elim
            · subst hX; exact fun k hk => (ob_nil hk).elim
            · subst hX; exact fun j _ _ k hk => (ob_nil hk).elim
          have y111 := w11.new
          have y311 := w11.blk (x10.blk y39) (by omega)
          refine cw_seq (cw_region rfl ?_)
          conv => whnf
          refine ⟨_, by rfl, y111.all, ?_⟩
          conv => whnf
          refine ⟨_, _, y311, ⟨by rw [hcs]; show 0 + 23 ≤ 23; omega, by rfl, by simpa using pairC_one (upd f i X) i (OB.one (I11.ok 0 (by omega)).own) (OB.one (I11.ok 1 (by omega)).own)⟩, ?_⟩
          intro hf wf
          replace wf := wf.cast (l' := pairC (upd f i X) i) (by simp [splice, hcs, pairC, stI, stateC])
          have zf := wf.size
          refine cw_ret ?_
          conv => whnf
          refine ⟨_, by rfl, wf.new.all, ?_⟩
          exact ⟨upd f i X, i, rfl, by omega, I11.wrote wf y311 (by decide) (by decide), ⟨by omega, fun b hb' hn => by rw [wf.block b (by omega), low11 b hb' hn]⟩⟩
        · refine cw_beq_no rfl d3 ?_
          refine cw_seq (cw_region rfl ?_)
          by_cases d4 : d = 4
          · refine cw_beq_yes rfl d4 ?_
            -- the other one is a clone
            obtain ⟨j, hj⟩ : ∃ j, j = 1 - i := ⟨_, rfl⟩
            have hj2 : j < 2 := by omega
            have hij : i ≠ j := by omega
            have ej := i64_eq (1 - (i : Int)) j (by omega) (by omega)
            refine cw_seq (cw_drawn (by kernel_rfl) 7 (fun i => i == 4) [0, 1, 2, 3, 5, 4, 6] (by kernel_rfl) rfl ?_)
            conv => whnf
            refine ⟨_, y18.rd (o := 22) (pair_n f i), ?_⟩
            conv => whnf
            rw [ej]
            intro h9 x9
            refine ⟨_, rfl, _, hclone_fn (A8.hash.more x9) (by omega), ?_⟩
            rintro _ h10 ⟨q, v10, rfl, hq, H10, x10, f10⟩
            refine ⟨x10.toU _, ?_⟩
            intro h11 x11
            conv => whnf
            refine ⟨⟨by omega, by omega⟩, ?_⟩
            conv => whnf
            intro h12 x12
            have x812 := (x9.trans x10).trans (x11.trans x12)
            have z812 := x812.size
            have z9 := x9.size
            have lq : q < h10.size := H10.blk.lt
            have y112 := x812.blk y18
            refine ⟨_, _, y112, (show 0 + 0 + ((j : Int)).toNat < 23 by omega), ?_⟩
            intro h13 w13
            replace w13 := w13.cast (l' := pairC (upd f j { f j with p := q }) i) (by
              rw [← pair_set f i j q hj2]
              exact congrArg (fun o => List.set (pairC f i) o _) (show 0 + 0 + ((j : Int)).toNat = j by omega))
            have z13 := w13.size
            have y113 := w13.new
            have y413 := w13.blk (x812.blk y8) (by omega)
            have y313 := w13.blk (x812.blk y38) (by omega)
            refine cw_seq (cw_region rfl ?_)
            conv => whnf
            refine ⟨_, y113.rd (o := 22) (pair_n _ i), ?_⟩
            conv => whnf
            rw [ej]
            refine ⟨_, by rfl, y413.all, ?_⟩
            conv => whnf
            refine ⟨⟨by omega, by omega⟩, ?_⟩
            conv => whnf
            obtain ⟨X, hX⟩ : ∃ X : HI, X = ⟨q, v10, (f i).s, (f i).l, (f i).n, (f i).b⟩ := ⟨_, rfl⟩
            have hst : stI X = stI (f i) := by rw [hX]; rfl
            refine ⟨_, _, y113, ⟨by show 0 + 2 + ((j : Int)).toNat * 10 + 10 ≤ 23; omega, by rfl, stI_one _ (hone i hi)⟩, ?_⟩
            intro h14 w14
            replace w14 := w14.cast (l' := pairC (upd f j X) i) (by
              rw [← upd_upd f j { f j with p := q } X, ← pair_splice (upd f j { f j with p := q }) i j X hj2 (by rw [upd_same, hX]), hst]
              exact congrArg (fun o => splice (pairC (upd f j { f j with p := q }) i) o (stI (f i))) (show 0 + 2 + ((j : Int)).toNat * 10 = 2 + j * 10 by omega))
            have z14 := w14.size
            have low14 : ∀ b, b < h.size → ¬ (b = (f i).p ∨ ob (f i).v b) → h14[b]? = h[b]? := fun b hb' hn => by rw [w14.block b (by omega), w13.block b (by omega), x812.block b (by omega), low8 b hb' hn]
            have I14 : PInv base h14 (upd f j X) := by
              have J : PInv base h12 (upd f j X) := by
                refine I8.clone hi hj2 hij x812 X ?_ (by subst hX; show h8.size ≤ q; omega) (by subst hX; exact fun k hk => by have := f10 k hk; omega) (by rw [hX])
                subst hX
                exact ⟨H10.more (x11.trans x12), OwnS.more A8.own x812, A.len, A.max, by show base ≤ q; omega, fun k hk => by have := f10 k hk; omega, A.lb⟩
              exact (J.wrote w13 y112 (by decide) (by decide)).wrote w14 y113 (by decide) (by decide)
            have y114 := w14.new
            have y314 := w14.blk y313 (by omega)
            have hone14 : ∀ y ∈ pairC (upd f j X) i, y.oneCell' = true := pairC_one _ _ (OB.one (I14.ok 0 (by omega)).own) (OB.one (I14.ok 1 (by omega)).own)
            clear w14 w13 y413 y313 y113 y112 x9 x10 x11 x12 x812 H10 hX hst
            refine cw_seq (cw_keeps (by kernel_rfl) 9 (fun k => k ≠ b2) (.q 0 (.q 1 (.q 2 (.q 3 (.q 4 (.q 5 (.q 6 (.q 7 (.i1 8 .leaf))))))))) (by kernel_rfl) rfl ?_)
            conv => whnf
            refine ⟨.agg (pairC (upd f j X) i).toArray, fun h' e => ⟨pairC (upd f j X) i, by rfl, (ExtP.blk e y114 (show h.size ≠ b2 by omega)).all, rfl⟩, ?_⟩
            conv => whnf
            refine ⟨_, fun h' e => rfl, ?_⟩
            conv => whnf
            refine ⟨.int .i64 (i : Int), fun h' e => ⟨_, (ExtP.blk e y114 (show h.size ≠ b2 by omega)).rd (o := 22) (pair_n _ i), rfl⟩, ?_⟩
            conv => whnf
            refine ⟨.int .i64 (j : Int), fun h' e => ?_, ?_⟩
            · show Value.int .i64 (IntKind.i64.wrap (1 - (i : Int))) = _
              rw [ej]
            conv => whnf
            refine ⟨_, fun h' e => rfl, ?_⟩
            conv => whnf
            refine ⟨.pointer (some ⟨h.size, 0 + 0 + ((j : Int)).toNat, none⟩), fun h' e => ⟨⟨by omega, by omega⟩, rfl⟩, ?_⟩
            conv => whnf
            refine ⟨.pointer (some ⟨(upd f j X j).p, 0, none⟩), fun h' e => ⟨_, (ExtP.blk e y114 (show h.size ≠ b2 by omega)).rd (o := 0 + 0 + ((j : Int)).toNat) (by rw [show 0 + 0 + ((j : Int)).toNat = j by omega]; exact pair_ptr _ i j hj2), rfl⟩, ?_⟩
            conv => whnf
            refine ⟨.bool true, fun h' e => ⟨.bool true, fun w => by kernel_rfl, rfl⟩, ?_⟩
            conv => whnf
            intro h15 x15
            refine ⟨_, _, x15.blk y314, ⟨by rw [hcs]; show 0 + 23 ≤ 23; omega, by rfl, by simpa using hone14⟩, ?_⟩
            intro h16 w16
            replace w16 := w16.cast (l' := pairC (upd f j X) i) (by simp [splice, hcs, pairC, stI, stateC])
            have z15 := x15.size
            have z16 := w16.size
            refine ⟨⟨by omega, fun b hK hb => w16.block b hK⟩, ?_⟩
            intro h17 x17
            have z17 := x17.size
            conv => whnf
            intro h18 x18
            have z18 := x18.size
            refine cw_ret ?_
            conv => whnf
            refine ⟨_, by rfl, ((x17.trans x18).blk w16.new).all, ?_⟩
            exact ⟨upd f j X, i, rfl, hi, ((I14.more x15).wrote w16 (x15.blk y314) (by decide) (by decide)).more (x17.trans x18), ⟨by omega, fun b hb' hn => by rw [(x17.trans x18).block b (by omega), w16.block b (by omega), x15.block b (by omega), low14 b hb' hn]⟩⟩
          · refine cw_beq_no rfl d4 ?_
            refine cw_seq (cw_region rfl ?_)
            by_cases d5 : d = 5
            · refine cw_beq_yes rfl d5 ?_
              -- the other one is meant
              obtain ⟨j, hj⟩ : ∃ j, j = 1 - i := ⟨_, rfl⟩
              have ej := i64_eq (1 - (i : Int)) j (by omega) (by omega)
              refine cw_region rfl ?_
              conv => whnf
              refine ⟨_, y18.rd (o := 22) (pair_n f i), ?_⟩
              conv => whnf
              rw [ej]
              refine ⟨_, _, y18, (show (22 : Nat) < 23 by decide), ?_⟩
              intro h9 w9
              replace w9 := w9.cast (l' := pairC f j) (pair_setn f i j)
              have z9 := w9.size
              have y19 := w9.new
              have y39 := w9.blk y38 (by omega)
              have I9 := I8.wrote w9 y18 (by decide) (by decide)
              have low9 : ∀ b, b < h.size → ¬ (b = (f i).p ∨ ob (f i).v b) → h9[b]? = h[b]? := fun b hb' hn => by rw [w9.block b (by omega), low8 b hb' hn]
              refine cw_seq (cw_region rfl ?_)
              conv => whnf
              refine ⟨_, by rfl, y19.all, ?_⟩
              conv => whnf
              refine ⟨_, _, y39, ⟨by rw [hcs]; show 0 + 23 ≤ 23; omega, by rfl, by simpa using pairC_one (f) j (OB.one (I9.ok 0 (by omega)).own) (OB.one (I9.ok 1 (by omega)).own)⟩, ?_⟩
              intro hf wf
              replace wf := wf.cast (l' := pairC (f) j) (by simp [splice, hcs, pairC, stI, stateC])
              have zf := wf.size
              refine cw_ret ?_
              conv => whnf
              refine ⟨_, by rfl, wf.new.all, ?_⟩
              exact ⟨f, j, rfl, by omega, I9.wrote wf y39 (by decide) (by decide), ⟨by omega, fun b hb' hn => by rw [wf.block b (by omega), low9 b hb' hn]⟩⟩
            · refine cw_beq_no rfl d5 (cw_skip ?_)
              refine cw_seq (cw_region rfl ?_)
              conv => whnf
              refine ⟨_, by rfl, y18.all, ?_⟩
              conv => whnf
              refine ⟨_, _, y38, ⟨by rw [hcs]; show 0 + 23 ≤ 23; omega, by rfl, by simpa using pairC_one (f) i (OB.one (I8.ok 0 (by omega)).own) (OB.one (I8.ok 1 (by omega)).own)⟩, ?_⟩
              intro hf wf
              replace wf := wf.cast (l' := pairC (f) i) (by simp [splice, hcs, pairC, stI, stateC])
              have zf := wf.size
              refine cw_ret ?_
              conv => whnf
              refine ⟨_, by rfl, wf.new.all, ?_⟩
              exact ⟨f, i, rfl, by omega, I8.wrote wf y38 (by decide) (by decide), ⟨by omega, fun b hb' hn => by rw [wf.block b (by omega), low8 b hb' hn]⟩⟩
end Go.Proofs.YtnjimdjojinffaaDoor
