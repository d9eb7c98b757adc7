/-
  ShaOwn: no bytes are shared with the caller: whatever tag, parts and number (of bulk at most 1048576, the document's table with them), the law returns true, and what was there stays. (The document's table is tied to its text.)
-/
import Derived.Test.YtnjimdjojinffaaDoorShaTab
import Derived.Test.YtnjimdjojinffaaDoorShaFill
import Derived.Test.YtnjimdjojinffaaDoorShaParts
namespace Go.Proofs.YtnjimdjojinffaaDoor.shaOwn
open Go Vm
open Go.ChangeShapes Go.WideShapes Go.ChangeAt Go.RowKit
set_option maxRecDepth 100000
set_option linter.unusedVariables false
theorem law (s : List UInt8) (x : Value) (ms : List (List UInt8)) (pv : List Value) (n : Nat) (h : Heap) (T : Tab h) (R : PD (fun k => k < h.size) h x ms pv) (hms : s.length + ms.flatten.length + ms.length ≤ 1048576) :
    Fx Tryd.prog 9 #[.agg #[.string (bs s), x], .int .u64 (n : Int)] h fun u h' => u = .bool true ∧ ExtH h h' := by
  refine fn_of 153 Tryd.func9 rfl (by kernel_rfl) rfl (by simp) ?_
  have hs : s.length ≤ maxLen := by simp only [maxLen]; omega
  obtain ⟨xa, xc, hfx, hlen⟩ := R.fix
  refine cw_seq (cw_region rfl ?_)
  conv => whnf
  intro h1 n1
  have z1 := n1.size
  have y1 : Blk h1 h.size [.string (bs s), x] 68 := n1.blk
  have x1 := n1.ext
  clear n1
  have keep : ∀ {h' : Heap}, ExtH h h' → PD (fun k => k < h.size) h' x ms pv := fun e => R.keep (e.chg (S := fun _ => False)) (fun _ _ e => e)
  refine cw_seq (cw_region rfl ?_)
  conv => whnf
  refine ⟨_, rfl, _, took_new h1, ?_⟩
  rintro _ h2 ⟨p, rfl, hp, T2, x2⟩
  have z2 := x2.size
  have lp := T2.blk.lt
  refine cw_seq (cw_seq (cw_region rfl ?_))
  conv => whnf
  refine ⟨.bool false, fun w => by kernel_rfl, ?_⟩
  conv => whnf
  refine ⟨_, (x2.blk y1).rd (o := 1) rfl, ?_⟩
  conv => whnf
  refine ⟨_, rfl, _, took_write T2 (keep (x1.trans x2)) (fun b hb => ⟨by omega, by omega, ob_nil⟩) (by simp only [List.length_nil]; omega), ?_⟩
  rintro _ h3 ⟨rfl, v3, T3, c3, f3⟩
  rw [List.nil_append] at T3
  have z3 := c3.size
  have y3 : Blk h3 h.size [.string (bs s), x] 68 := c3.blk (x2.blk y1) (fun e => e.elim (by omega) ob_nil)
  have x3 : ExtH h h3 := ⟨by omega, fun b hb => by rw [c3.block b (by omega) (fun e => e.elim (by omega) ob_nil), x2.block b (by omega), x1.block b hb]⟩
  clear c3 y1
  refine cw_false rfl (cw_skip ?_)
  refine cw_seq (cw_seq (cw_region rfl ?_))
  conv => whnf
  refine cw_block ?_
  refine cw_loop (S := Nat) (fun r => [(1, .int .u64 (n : Int)), (2, .pointer (some ⟨h.size, 0, none⟩)), (5, .pointer (some ⟨p, 0, none⟩)), (6, .int .i64 (r : Int))])
    (fun r h' => r ≤ 2 ∧ ExtH h3 h') (fun r => 2 - r) 0 ⟨rfl, rfl, rfl, rfl, trivial⟩ ⟨by omega, ExtH.refl _⟩ ?_
  rintro r h4 ⟨hr, x4⟩
  have x04 := x3.trans x4
  have T4 := T3.more x4
  have z4 := x4.size
  refine cw_seq (cw_seq (cw_region rfl ?_))
  conv => whnf
  by_cases hlt : r < 2
  · refine cw_yes rfl (by omega) (cw_skip ?_)
    refine cw_seq (cw_block ?_)
    obtain ⟨k, hk⟩ : ∃ k, k = n % 1000 := ⟨_, rfl⟩
    have wk : ((n : Nat) : Int).tmod 1000 = ((k : Nat) : Int) := by rw [Int.tmod_eq_emod_of_nonneg (by omega)]; omega
    have hrl := Sha.rest_lt ms.flatten
    refine cw_seq (cw_region rfl ?_)
    conv => whnf
    refine ⟨_, rfl, _, state_fn T4 (by omega), ?_⟩
    rintro _ h5 ⟨v5, rfl, o5, x5, f5⟩
    have z5 := x5.size
    conv => whnf
    intro h6 n6
    have z6 := n6.size
    have y6' : Blk h6 h5.size (stateC ⟨0, 0, 0, 0, 0, 0, 0, 0⟩ (.slice none 0 0) 0) 43 := n6.blk
    have x6 := n6.ext
    clear n6
    conv => whnf
    refine ⟨_, _, y6', ⟨(show (10 : Nat) ≤ 10 by decide), by rfl, by obtain ⟨a, k, e⟩ := o5.r.len; subst e; simp [stateC, u32v, Value.oneCell']⟩, ?_⟩
    intro h7 w7
    replace w7 := w7.cast (l' := stateC (Sha.feed Sha.H0 ms.flatten) v5 ms.flatten.length) (by rfl)
    have z7 := w7.size
    have y7 := w7.new
    have o7 : OB h7 v5 (Sha.rest ms.flatten) := OwnS.keep (OwnS.more o5 x6) w7.chg (fun b hb e => by have := OwnS.lt o5 hb; omega)
    have x7 : ExtH h4 h7 := ⟨by omega, fun b hb => by rw [w7.block b (by omega), x6.block b (by omega), x5.block b hb]⟩
    generalize hs7 : h5.size = s7 at *
    clear w7 y6' x6
    -- the padding
    refine cw_seq (cw_region rfl ?_)
    conv => whnf
    refine ⟨by decide, ?_⟩
    conv => whnf
    rw [wk]
    refine ⟨_, rfl, _, pad_yes k (by omega) h7, ?_⟩
    rintro _ h8 ⟨v8, rfl, o8, x8, f8⟩
    have z8 := x8.size
    conv => whnf
    -- the preimage
    refine cw_seq (cw_region rfl ?_)
    conv => whnf
    have y8 := ((x4.trans x7).trans x8).blk y3
    have x08 := (x04.trans x7).trans x8
    refine ⟨_, y8.rd (o := 0) rfl, ?_⟩
    conv => whnf
    refine ⟨_, y8.rd (o := 1) rfl, ?_⟩
    conv => whnf
    refine ⟨_, rfl, _, preimage_all (keep x08) (fun b hb => by have := x08.size; omega) hs (by omega), ?_⟩
    rintro _ h9 ⟨v9, rfl, o9, x9, f9⟩
    have z9 := x9.size
    conv => whnf
    -- the document's
    refine cw_seq (cw_region rfl ?_)
    conv => whnf
    refine ⟨by decide, ?_⟩
    conv => whnf
    rw [wk]
    refine ⟨_, rfl, _, rpad_yes k (by omega) h9, ?_⟩
    rintro _ h10 ⟨v10, rfl, o10, x10, f10⟩
    have z10 := x10.size
    conv => whnf
    refine cw_seq (cw_region rfl ?_)
    conv => whnf
    have x010 := (x08.trans x9).trans x10
    have y10 := (x9.trans x10).blk y8
    refine ⟨_, y10.rd (o := 0) rfl, ?_⟩
    conv => whnf
    refine ⟨_, y10.rd (o := 1) rfl, ?_⟩
    conv => whnf
    refine ⟨_, rfl, _, rpreimage_all (keep x010) (fun b hb => by have := x010.size; omega) hs (by omega), ?_⟩
    rintro _ h11 ⟨v11, rfl, o11, x11, f11⟩
    have z11 := x11.size
    conv => whnf
    have x011 := x010.trans x11
    have y11 := x11.blk y10
    have T11 := T4.more ((((x7.trans x8).trans x9).trans x10).trans x11)
    have P8 := OwnS.more o8 ((x9.trans x10).trans x11)
    have P9 := OwnS.more o9 (x10.trans x11)
    have P10 := OwnS.more o10 x11
    refine cw_seq (cw_seq ?_)
    refine cw_drawn (by kernel_rfl) 17 (fun _ => false) (List.range 17) (by kernel_rfl) rfl ?_
    conv => whnf
    refine ⟨_, rfl, _, fun h' e => (alike_fn ((OB.r P8).more e) ((OB.r P10).more e)), ?_⟩
    rw [decide_eq_true rfl]
    conv => whnf
    refine ⟨_, rfl, _, fun h' e => (alike_fn ((OB.r P9).more e) ((OB.r o11).more e)), ?_⟩
    rw [decide_eq_true rfl]
    conv => whnf
    refine ⟨_, rfl, _, took_sum_q T11 (by omega), ?_⟩
    conv => whnf
    refine ⟨_, y11.rd (o := 1) rfl, ?_⟩
    conv => whnf
    refine ⟨_, rfl, _, fun h' e => rof_fn (T.more (x011.trans e)) (keep (x011.trans e)) (by omega), ?_⟩
    conv => whnf
    refine ⟨.bool false, fun w => dig_differ _ _ _ rfl w, ?_⟩
    conv => whnf
    intro h12 x12
    refine cw_false rfl (cw_skip ?_)
    have x412 : ExtH h4 h12 := (((x7.trans x8).trans x9).trans (x10.trans x11)).trans x12
    have z12 := x12.size
    have g5 : ∀ b, ob v5 b → h4.size ≤ b ∧ b < s7 := fun b hb => ⟨f5 b hb, by have := OwnS.lt o5 hb; omega⟩
    have g8 : ∀ b, ob v8 b → h7.size ≤ b ∧ b < h8.size := fun b hb => ⟨f8 b hb, OwnS.lt o8 hb⟩
    have g9 : ∀ b, ob v9 b → h8.size ≤ b ∧ b < h9.size := fun b hb => ⟨f9 b hb, OwnS.lt o9 hb⟩
    have Y : Blk h12 s7 (stateC (Sha.feed Sha.H0 ms.flatten) v5 ms.flatten.length) 43 := ((((x8.trans x9).trans x10).trans x11).trans x12).blk y7
    have Q5 : OB h12 v5 (Sha.rest ms.flatten) := OwnS.more o7 ((((x8.trans x9).trans x10).trans x11).trans x12)
    have Q8 : OB h12 v8 (Sha.pad k) := OwnS.more P8 x12
    have Q9 : OB h12 v9 (Sha.preOf s ms) := OwnS.more P9 x12
    obtain ⟨a10, k10, e10⟩ := (OB.r P10).len
    obtain ⟨a11, k11, e11⟩ := o11.r.len
    have hpl : (Sha.pad k).length ≤ 72 := by rw [Sha.pad_length]; unfold Sha.zeros; omega
    have hql := Sha.preOf_le s ms
    generalize Sha.feed Sha.H0 ms.flatten = S at *
    generalize ms.flatten.length = NN at *
    generalize hl5 : Sha.rest ms.flatten = L5 at *
    clear P8 P9 P10 o5 o7 o8 o9 o10 o11 x7 x8 x9 x10 x11 x12 y7 y8 y10 y11 f5 f8 f9 f10 f11 T11 x08 x010 x011 x5 hl5
    obtain ⟨a5, k5, e5⟩ := Q5.r.len
    subst e5
    -- the state's bytes are written over
    refine cw_seq (cw_seq (cw_region rfl ?_))
    conv => whnf
    refine cw_block ?_
    refine cw_loop (S := Nat × List UInt8) (fun q => [(1, .int .u64 (n : Int)), (2, .pointer (some ⟨h.size, 0, none⟩)), (5, .pointer (some ⟨p, 0, none⟩)), (6, .int .i64 (r : Int)), (7, .pointer (some ⟨s7, 0, none⟩)), (8, v8), (10, v9), (12, v10), (14, v11), (16, .int .i64 (q.1 : Int))])
      (fun q h' => q.1 ≤ L5.length ∧ q.2.length = L5.length ∧ Blk h' s7 (stateC S (.slice a5 L5.length k5) NN) 43 ∧ OB h' (.slice a5 L5.length k5) q.2 ∧ OB h' v8 (Sha.pad k) ∧ OB h' v9 (Sha.preOf s ms) ∧ ExtH h4 h' ∧ h12.size ≤ h'.size) (fun q => L5.length - q.1) (0, L5)
      ⟨rfl, rfl, rfl, rfl, rfl, rfl, rfl, rfl, rfl, rfl, trivial⟩ ⟨Nat.zero_le _, rfl, Y, Q5, Q8, Q9, x412, Nat.le_refl _⟩ ?_
    clear Y Q5 Q8 Q9 x412
    rintro ⟨t, l5⟩ h13 ⟨ht, hl5, Y, Q5, Q8, Q9, x13, z13⟩
    simp only [] at ht hl5 Q5
    refine cw_seq (cw_seq (cw_region rfl ?_))
    conv => whnf
    refine ⟨_, Y.rd (o := 8) rfl, ?_⟩
    conv => whnf
    by_cases hlt5 : t < L5.length
    · refine cw_yes rfl (by show (t : Int) < (L5.length : Int); omega) (cw_skip ?_)
      obtain ⟨g, rfl, put⟩ := OB.put Q5 t (by omega)
      have gg := g5 g (ob_slice.2 rfl)
      refine cw_seq (cw_block (cw_region rfl ?_))
      conv => whnf
      refine ⟨_, Y.rd (o := 8) rfl, ?_⟩
      conv => whnf
      refine ⟨⟨by omega, by show (t : Int) < ((L5.length : Nat) : Int); omega⟩, ?_⟩
      conv => whnf
      rw [show 0 + ((t : Int)).toNat = t by omega]
      obtain ⟨c, hc⟩ := wrap_u8v (IntKind.i64.wrap (91 + (r : Int)))
      refine put _ c hc _ (fun h14 c14 o14 => ?_)
      have z14 := c14.size
      refine cw_region rfl ?_
      exact ⟨(t + 1, l5.set t c), ⟨rfl, rfl, rfl, rfl, rfl, rfl, rfl, rfl, rfl, slot_i64 _ _ (by simp only []; omega) (by simp only []; omega), trivial⟩,
        ⟨hlt5, by simp [hl5], c14.blk Y (by omega), o14, OwnS.keep Q8 c14 (fun b hb e => by have := g8 b hb; omega), OwnS.keep Q9 c14 (fun b hb e => by have := g9 b hb; omega), ⟨by have := x13.size; omega, fun b hb => by rw [c14.block b (by have := x13.size; omega) (by omega), x13.block b hb]⟩, by omega⟩,
        by show L5.length - (t + 1) < L5.length - t; omega⟩
    · refine cw_no rfl (by show ¬ (t : Int) < (L5.length : Int); omega) (cw_exit ?_)
      clear hlt5 ht z12
      generalize hh12 : h12.size = zz at *
      clear hh12
      obtain ⟨a8, k8, e8⟩ := Q8.r.len
      subst e8
      -- the padding's
      refine cw_seq (cw_seq (cw_region rfl ?_))
      conv => whnf
      refine cw_block ?_
      refine cw_loop (S := Nat × List UInt8) (fun q => [(1, .int .u64 (n : Int)), (2, .pointer (some ⟨h.size, 0, none⟩)), (5, .pointer (some ⟨p, 0, none⟩)), (6, .int .i64 (r : Int)), (7, .pointer (some ⟨s7, 0, none⟩)), (8, .slice a8 (Sha.pad k).length k8), (10, v9), (12, v10), (14, v11), (17, .int .i64 (q.1 : Int))])
        (fun q h' => q.1 ≤ (Sha.pad k).length ∧ q.2.length = (Sha.pad k).length ∧ Blk h' s7 (stateC S (.slice a5 L5.length k5) NN) 43 ∧ OB h' (.slice a5 L5.length k5) l5 ∧ OB h' (.slice a8 (Sha.pad k).length k8) q.2 ∧ OB h' v9 (Sha.preOf s ms) ∧ ExtH h4 h' ∧ zz ≤ h'.size) (fun q => (Sha.pad k).length - q.1) (0, Sha.pad k)
        ⟨rfl, rfl, rfl, rfl, rfl, rfl, rfl, rfl, rfl, rfl, trivial⟩ ⟨Nat.zero_le _, rfl, Y, Q5, Q8, Q9, x13, z13⟩ ?_
      clear Y Q5 Q8 Q9 x13 z13 h13
      rintro ⟨t8, l8⟩ h13 ⟨ht, hl8, Y, Q5, Q8, Q9, x13, z13⟩
      simp only [] at ht hl8 Q8
      refine cw_seq (cw_seq (cw_region rfl ?_))
      conv => whnf
      by_cases hlt8 : t8 < (Sha.pad k).length
      · refine cw_yes rfl (by show (t8 : Int) < ((Sha.pad k).length : Int); omega) (cw_skip ?_)
        obtain ⟨g, rfl, put⟩ := OB.put Q8 t8 (by omega)
        have gg := g8 g (ob_slice.2 rfl)
        refine cw_seq (cw_block (cw_region rfl ?_))
        conv => whnf
        refine ⟨⟨by omega, by show (t8 : Int) < (((Sha.pad k).length : Nat) : Int); omega⟩, ?_⟩
        conv => whnf
        rw [show 0 + ((t8 : Int)).toNat = t8 by omega]
        obtain ⟨c, hc⟩ := wrap_u8v (IntKind.i64.wrap (93 + (r : Int)))
        refine put _ c hc _ (fun h14 c14 o14 => ?_)
        have z14 := c14.size
        refine cw_region rfl ?_
        exact ⟨(t8 + 1, l8.set t8 c), ⟨rfl, rfl, rfl, rfl, rfl, rfl, rfl, rfl, rfl, slot_i64 _ _ (by simp only []; omega) (by simp only []; omega), trivial⟩,
          ⟨hlt8, by simp [hl8], c14.blk Y (by omega), OwnS.keep Q5 c14 (fun b hb e => by have := g5 b hb; omega), o14, OwnS.keep Q9 c14 (fun b hb e => by have := g9 b hb; omega), ⟨by have := x13.size; omega, fun b hb => by rw [c14.block b (by have := x13.size; omega) (by omega), x13.block b hb]⟩, by omega⟩,
          by show (Sha.pad k).length - (t8 + 1) < (Sha.pad k).length - t8; omega⟩
      · refine cw_no rfl (by show ¬ (t8 : Int) < ((Sha.pad k).length : Int); omega) (cw_exit ?_)
        clear hlt8 ht
        obtain ⟨a9, k9, e9⟩ := Q9.r.len
        subst e9
        generalize Sha.preOf s ms = P9 at *
        -- the preimage's
        refine cw_seq (cw_seq (cw_region rfl ?_))
        conv => whnf
        refine cw_block ?_
        refine cw_loop (S := Nat × List UInt8) (fun q => [(1, .int .u64 (n : Int)), (2, .pointer (some ⟨h.size, 0, none⟩)), (5, .pointer (some ⟨p, 0, none⟩)), (6, .int .i64 (r : Int)), (7, .pointer (some ⟨s7, 0, none⟩)), (8, .slice a8 (Sha.pad k).length k8), (10, .slice a9 P9.length k9), (12, v10), (14, v11), (18, .int .i64 (q.1 : Int))])
          (fun q h' => q.1 ≤ P9.length ∧ q.2.length = P9.length ∧ Blk h' s7 (stateC S (.slice a5 L5.length k5) NN) 43 ∧ OB h' (.slice a5 L5.length k5) l5 ∧ OB h' (.slice a8 (Sha.pad k).length k8) l8 ∧ OB h' (.slice a9 P9.length k9) q.2 ∧ ExtH h4 h' ∧ zz ≤ h'.size) (fun q => P9.length - q.1) (0, P9)
          ⟨rfl, rfl, rfl, rfl, rfl, rfl, rfl, rfl, rfl, rfl, trivial⟩ ⟨Nat.zero_le _, rfl, Y, Q5, Q8, Q9, x13, z13⟩ ?_
        clear Y Q5 Q8 Q9 x13 z13 h13
        rintro ⟨t9, l9⟩ h13 ⟨ht, hl9, Y, Q5, Q8, Q9, x13, z13⟩
        simp only [] at ht hl9 Q9
        refine cw_seq (cw_seq (cw_region rfl ?_))
        conv => whnf
        by_cases hlt9 : t9 < P9.length
        · refine cw_yes rfl (by show (t9 : Int) < (P9.length : Int); omega) (cw_skip ?_)
          obtain ⟨g, rfl, put⟩ := OB.put Q9 t9 (by omega)
          have gg := g9 g (ob_slice.2 rfl)
          refine cw_seq (cw_block (cw_region rfl ?_))
          conv => whnf
          refine ⟨⟨by omega, by show (t9 : Int) < ((P9.length : Nat) : Int); omega⟩, ?_⟩
          conv => whnf
          rw [show 0 + ((t9 : Int)).toNat = t9 by omega]
          obtain ⟨c, hc⟩ := wrap_u8v (IntKind.i64.wrap (95 + (r : Int)))
          refine put _ c hc _ (fun h14 c14 o14 => ?_)
          have z14 := c14.size
          refine cw_region rfl ?_
          exact ⟨(t9 + 1, l9.set t9 c), ⟨rfl, rfl, rfl, rfl, rfl, rfl, rfl, rfl, rfl, slot_i64 _ _ (by simp only []; omega) (by simp only []; omega), trivial⟩,
            ⟨hlt9, by simp [hl9], c14.blk Y (by omega), OwnS.keep Q5 c14 (fun b hb e => by have := g5 b hb; omega), OwnS.keep Q8 c14 (fun b hb e => by have := g8 b hb; omega), o14, ⟨by have := x13.size; omega, fun b hb => by rw [c14.block b (by have := x13.size; omega) (by omega), x13.block b hb]⟩, by omega⟩,
            by show P9.length - (t9 + 1) < P9.length - t9; omega⟩
        · refine cw_no rfl (by show ¬ (t9 : Int) < (P9.length : Int); omega) (cw_exit ?_)
          clear hlt9 ht
          have l5l : l5.length ≤ 1048576 * 2 := by rw [hl5]; omega
          have l8l : l8.length ≤ 72 := by omega
          have l9l : l9.length ≤ 100000000 := by omega
          clear l5l
          subst e10 e11
          -- more behind them
          refine cw_seq (cw_region rfl ?_)
          conv => whnf
          refine ⟨_, Y.rd (o := 8) rfl, ?_⟩
          conv => whnf
          refine ⟨_, rfl, #[u8v 1, u8v 2, u8v 3, u8v 4, u8v 5, u8v 6, u8v 7, u8v 8], 5, fun w => by kernel_rfl, ?_⟩
          intro h14 n14
          have z14 := n14.size
          conv => whnf
          refine ⟨_, rfl, _, append_bytes (ty := 40) (OwnS.more Q5 n14.ext) (RB.of_newed n14 (l := [1, 2, 3, 4, 5, 6, 7, 8]) rfl rfl (by decide)) (by simp; omega), ?_⟩
          rintro v15 h15 ⟨o15, c15, f15⟩
          have z15 := c15.size
          obtain ⟨a15, k15, e15⟩ := (OB.r o15).len
          subst e15
          have ns : ¬ ob (.slice a5 L5.length k5) s7 := fun e => by have := g5 _ e; omega
          conv => whnf
          refine ⟨_, _, c15.blk (n14.ext.blk Y) ns, (show (8 : Nat) < 10 by decide), ?_⟩
          intro h16 w16
          have z16 := w16.size
          have R8 : OB h16 (.slice a8 (Sha.pad k).length k8) l8 := OwnS.keep (OwnS.keep (OwnS.more Q8 n14.ext) c15 (fun b hb e => by have := g8 b hb; have := g5 b e; omega)) w16.chg (fun b hb e => by have := g8 b hb; omega)
          have R9 : OB h16 (.slice a9 P9.length k9) l9 := OwnS.keep (OwnS.keep (OwnS.more Q9 n14.ext) c15 (fun b hb e => by have := g9 b hb; have := g5 b e; omega)) w16.chg (fun b hb e => by have := g9 b hb; omega)
          have x413 := x13.size
          have x16 : ExtH h4 h16 := ⟨by omega, fun b hb => by rw [w16.block b (by omega), c15.block b (by omega) (fun e => by have := g5 b e; omega), n14.block b (by omega), x13.block b hb]⟩
          clear o15 c15 f15 w16 n14 Y Q5 Q8 Q9 x13 ns
          refine cw_seq (cw_region rfl ?_)
          conv => whnf
          refine ⟨_, rfl, #[u8v 9, u8v 9, u8v 9, u8v 9], 5, fun w => by kernel_rfl, ?_⟩
          intro h17 n17
          have z17 := n17.size
          conv => whnf
          refine ⟨_, rfl, _, append_bytes (ty := 40) (OwnS.more R8 n17.ext) (RB.of_newed n17 (l := [9, 9, 9, 9]) rfl rfl (by decide)) (by simp; omega), ?_⟩
          rintro v18 h18 ⟨o18, c18, f18⟩
          have z18 := c18.size
          obtain ⟨a18, k18, e18⟩ := (OB.r o18).len
          have R9' : OB h18 (.slice a9 P9.length k9) l9 := OwnS.keep (OwnS.more R9 n17.ext) c18 (fun b hb e => by have := g9 b hb; have := g8 b e; omega)
          have x18 : ExtH h4 h18 := ⟨by omega, fun b hb => by rw [c18.block b (by omega) (fun e => by have := g8 b e; omega), n17.block b (by omega), x16.block b hb]⟩
          refine cw_seq (cw_region rfl ?_)
          subst e18
          conv => whnf
          refine ⟨_, rfl, #[u8v 8, u8v 8, u8v 8, u8v 8], 5, fun w => by kernel_rfl, ?_⟩
          intro h19 n19
          have z19 := n19.size
          conv => whnf
          refine ⟨_, rfl, _, append_bytes (ty := 40) (OwnS.more R9' n19.ext) (RB.of_newed n19 (l := [8, 8, 8, 8]) rfl rfl (by decide)) (by simp; omega), ?_⟩
          rintro v20 h20 ⟨o20, c20, f20⟩
          have z20 := c20.size
          obtain ⟨a20, k20, e20⟩ := (OB.r o20).len
          have x20 : ExtH h4 h20 := ⟨by omega, fun b hb => by rw [c20.block b (by omega) (fun e => by have := g9 b e; omega), n19.block b (by omega), x18.block b hb]⟩
          subst e20
          have e1 := i64_eq (((Sha.pad k).length : Int) + 4) ((Sha.pad k).length + 4) (by omega) (by omega)
          have e2 := i64_eq ((P9.length : Int) + 4) (P9.length + 4) (by omega) (by omega)
          have e3 : (l8 ++ [9, 9, 9, 9]).length = (Sha.pad k).length + 4 := by rw [List.length_append, hl8]; rfl
          have e4 : (l9 ++ [8, 8, 8, 8]).length = P9.length + 4 := by rw [List.length_append, hl9]; rfl
          refine cw_seq (cw_region rfl ?_)
          refine ops_q rfl rfl (fun k hk => hk) ?_
          refine ops_q rfl rfl (fun k hk => hk) ?_
          refine ops_q rfl rfl (fun k hk => hk) ?_
          refine ops_q rfl rfl (fun k hk => hk) ?_
          refine ops_q rfl rfl (fun k hk => hk) ?_
          refine ops_q (v := .bool false) rfl rfl (fun K hk => ?_) ?_
          · show K (.bool (((l8 ++ [9, 9, 9, 9]).length : Int) != IntKind.i64.wrap (((Sha.pad k).length : Int) + 4)))
            rw [e1, e3, bne_self_eq_false]
            exact hk
          conv => whnf
          refine cw_bne_no rfl (by show ((l9 ++ [8, 8, 8, 8]).length : Int) = IntKind.i64.wrap ((P9.length : Int) + 4); omega) (cw_skip ?_)
          refine cw_region rfl ?_
          exact ⟨r + 1, ⟨rfl, rfl, rfl, slot_i64 _ _ (by omega) (by omega), trivial⟩, ⟨by omega, x4.trans x20⟩, by omega⟩
  · refine cw_no rfl (by show ¬ (r : Int) < 2; omega) (cw_exit ?_)
    have y4 := x4.blk y3
    refine cw_seq ?_
    refine cw_drawn (by kernel_rfl) 9 (fun _ => false) (List.range 9) (by kernel_rfl) rfl ?_
    conv => whnf
    refine ⟨_, rfl, _, took_sum_q T4 (by omega), ?_⟩
    conv => whnf
    refine ⟨_, y4.rd (o := 1) rfl, ?_⟩
    conv => whnf
    refine ⟨_, rfl, _, fun h' e => rof_fn (T.more (x04.trans e)) (keep (x04.trans e)) (by omega), ?_⟩
    conv => whnf
    refine ⟨.bool true, fun w => dig_same _ _ _ rfl w, ?_⟩
    conv => whnf
    refine ⟨_, rfl, _, fun h1 _ => awake_fn h1, ?_⟩
    conv => whnf
    intro h5 x5
    exact cw_ret ⟨rfl, x04.trans x5⟩
--ROW 'treadlelaw02.ShaOwn' 'shaOwn' 'named,u64' 'uptocard' 'law s0 x0 l0 pv0 n1 W.heap (tab_of hL) R0 (by omega)'
theorem own : ownKnob Tryd.prog.godebug = none := by kernel_rfl
theorem laidOut : laidOutB Tryd.prog = true := by kernel_rfl
theorem contract (H : Type) (enc : TypeId × Value → H) (W : World) (base : Nat) (args : Array Value) (ds gs : List (DataW H)) (before : List MemPlace) (hk : Rows.uptoSmall H (ds ++ gs) = true)
    (hval0 : ∀ (j : Nat) t v, Tryd.f9.params[j]? = some t → args[j]? = some v → Value.okWide Tryd.prog W .any base t v)
    (hW : DataW.Whole enc Tryd.prog Tryd.f9.params.toList Rows.shaOwnSpec.vars false W args.toList ds gs before) (hL : laidMetH Tryd.prog Rows.shaOwnUptoRow.laid W) :
    Calls Tryd.prog 9 args W fun e W' => ∃ v, e = .returned v ∧ Rows.shaOwnSpec.post enc Tryd.prog Tryd.f9 false true false false W args v W' := by
  have hval := hval0
  have hW' := hW
  obtain ⟨p, q, hA0, hV, rfl, hfz, hnd⟩ := hW
  have hA : DataW.TrodAll enc Tryd.prog W 0 (fun _ => true) true Tryd.f9.params.toList args.toList ds p := hA0
  rw [Tryd.params9] at hA hval
  obtain ⟨v0, vs0, d0, ds0, p0, q0, hargs, rfl, rfl, h0, r0⟩ := trodAll_cons hA
  obtain ⟨v1, vs1, d1, ds1, p1, q1, rfl, rfl, rfl, h1, r1⟩ := trodAll_cons r0
  obtain ⟨rfl, rfl, rfl⟩ := trodAll_nil r1
  obtain rfl : args = #[v0, v1] := by cases args; simp_all
  obtain ⟨rfl, rfl⟩ := trodVars_none hV
  have k0 := h0
  have lt0 : ∀ x ∈ p0, x.block < W.heap.size := by obtain ⟨m, hm⟩ := k0; exact DataW.trod_lt m _ _ _ hm
  obtain ⟨s0, x0, l0, pv0, rfl, R0, B0⟩ := open_named (hval 0 68 v0 rfl rfl) h0
  have k1 := h1
  have lt1 : ∀ x ∈ p1, x.block < W.heap.size := by obtain ⟨m, hm⟩ := k1; exact DataW.trod_lt m _ _ _ hm
  obtain ⟨a1, rfl, rfl, rfl, w1⟩ := open_int Tryd.underlying41 (hval 1 41 v1 rfl rfl) h1
  have hx1 := bounds_u64 w1
  obtain ⟨n1, rfl⟩ : ∃ n : Nat, a1 = n := ⟨a1.toNat, by omega⟩
  have hb := hk
  simp only [Rows.uptoSmall, decide_eq_true_eq, List.append_nil, Rows.uptoBulkAll, Rows.uptoBulk] at hb
  clear hA0 hval0
  refine (Fx.calls (by kernel_rfl) (law s0 x0 l0 pv0 n1 W.heap (tab_of hL) R0 (by omega))).mono fun e W' ⟨he, bel⟩ => ?_
  subst he
  exact ⟨_, rfl, _, _, _, [], _, [], hW', trodAll_mk1 (shut_bool Tryd.underlying4 _), (trodAll_cons_mk (Below.trod laidOut (by kernel_rfl) (of_decide_eq_true (by kernel_rfl)) k0 bel lt0) (trodAll_cons_mk (Below.trod laidOut (by kernel_rfl) (of_decide_eq_true (by kernel_rfl)) k1 bel lt1) trodAll_mk0)), rfl, bel.frame _, fun h => by cases h⟩
theorem laid_met (os : Os) : laidMet Tryd.prog Rows.shaOwnUptoRow.laid ((laidWorld os).forCall (fun _ _ => 0) ⟨#[], #[Value.agg #[Value.string ByteArray.empty, Value.slice none 0 0], Value.int .u64 0], []⟩).memory :=
  laidMet_of_run' 8 (by kernel_rfl) (by kernel_rfl)
theorem reads (os : Os) {H : Type} (enc : TypeId × Value → H) : ∃ places, DataW.whole enc Tryd.prog ((laidWorld os).forCall (fun _ _ => 0) ⟨#[], #[Value.agg #[Value.string ByteArray.empty, Value.slice none 0 0], Value.int .u64 0], []⟩).memory Tryd.f9.params.toList Rows.shaOwnSpec.vars false (#[Value.agg #[Value.string ByteArray.empty, Value.slice none 0 0], Value.int .u64 0] : Array Value).toList 8 = some ([.agg [.lit (.string []), .nil], .lit (.int .u64 0)], [], places) :=
  ⟨[], by kernel_rfl⟩
theorem lifted (os : Os) (started : os.Started) (H : Type) (enc : TypeId × Value → H) (F : Stop.Interp) :
    ReturnsInHanded {} Tryd.checked os 9 .any ((Rows.OpenSpec.upto Rows.shaOwnSpec).preRow enc Tryd.prog Tryd.f9 Rows.shaOwnUptoRow.domain false Rows.shaOwnUptoRow.laid) (((Rows.OpenSpec.upto Rows.shaOwnSpec).at F).post enc Tryd.prog Tryd.f9 false true false false) := by
  obtain ⟨places, hx⟩ := reads os enc
  refine returnsInHanded_of_row (C := Tryd.checked) (s := Rows.OpenSpec.upto Rows.shaOwnSpec) own started (by kernel_rfl) Tryd.func9
    (witness_row_at (enc := enc) (C := Tryd.checked) false (laidWorld os) #[Value.agg #[Value.string ByteArray.empty, Value.slice none 0 0], Value.int .u64 0] rfl (by kernel_rfl) (by kernel_rfl) (by kernel_rfl)
      (OpenSpec.preRow_of_cond 8 hx (by kernel_rfl) (fun k hk => by cases hk; kernel_rfl) (by kernel_rfl) (laid_met os))) ?_
  intro W base args ds gs before hval hW _ hcond _ hL _ _
  exact contract H enc W base args ds gs before (hcond _ rfl) hval hW hL
theorem said : Rows.shaOwnUptoRow.holds Tryd.pinned (Rows.OpenSpec.upto Rows.shaOwnSpec) :=
  OpenClaim.holds_of_cond 9 Tryd.f9 rfl rfl rfl rfl rfl rfl rfl ⟨rfl, rfl, rfl, rfl, rfl⟩ rfl rfl rfl rfl rfl (by kernel_rfl) Tryd.func9 (by kernel_rfl)
    (of_decide_eq_true (by kernel_rfl)) (by unfold Func.isWrapper; first | (rw [if_pos (by decide +kernel)]; kernel_rfl) | (rw [if_neg (by decide +kernel)]; exact ⟨rfl, rfl⟩))
    (fun os started H enc _ F => by rw [OpenClaim.pre_eq_preRow]; exact lifted os started H enc F)
theorem plain (f : FuncId) (fn : Func) (hf : Tryd.pinned.checked.prog.funcNamed "treadle/treadlelaw02.ShaOwn" = some f) (hfn : Tryd.pinned.checked.prog.funcs[f]? = some fn) :
    false = Tryd.pinned.checked.prog.looks [] ∧ ∀ (j : Nat) t, fn.params[j]? = some t → Tryd.pinned.checked.prog.wantsStandIn t = false := by
  obtain rfl : f = 9 := Option.some.inj ((show Tryd.prog.funcNamed "treadle/treadlelaw02.ShaOwn" = some 9 by kernel_rfl).symm.trans hf) |>.symm
  obtain rfl : fn = Tryd.f9 := (Option.some.inj (Tryd.func9.symm.trans hfn)).symm
  refine ⟨by kernel_rfl, fun j t ht => ?_⟩
  rw [Tryd.params9] at ht
  have hm : t = 68 ∨ t = 41 := by simpa using Array.mem_of_getElem? ht
  rcases hm with rfl | rfl
  · exact (show Tryd.prog.wantsStandIn 68 = false by kernel_rfl)
  · exact (show Tryd.prog.wantsStandIn 41 = false by kernel_rfl)
theorem over : Rows.ShaOwnUptoCardSaid :=
  Claim7.holds_tied_plain_at .later [] _ _ _ _ said (fun _ h => by cases h) (by kernel_rfl) (fun _ h => by cases h) shaOwnUpto_row_tie rfl ⟨rfl, rfl⟩ (by kernel_rfl) rfl plain (by kernel_rfl)
theorem proved : Rows.ShaOwnUptoCardSaid := over
end Go.Proofs.YtnjimdjojinffaaDoor.shaOwn
