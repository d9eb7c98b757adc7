/-
  ShaLoads: a digest goes on from every state that may be, and from no other: whatever state, whatever calls behind it (of bulk at most 1048576, the document's table with them), the law returns true, and what was there stays. (The document's table is tied to its text.)
-/
import Derived.Test.YtnjimdjojinffaaDoorShaOps
import Derived.Test.YtnjimdjojinffaaDoorShaTells
import Derived.Test.YtnjimdjojinffaaDoorShaLoad3
import Derived.Test.YtnjimdjojinffaaDoorShaFill
namespace Go.Proofs.YtnjimdjojinffaaDoor.shaLoads
open Go Vm
open Go.ChangeShapes Go.WideShapes Go.ChangeAt Go.RowKit
set_option maxRecDepth 100000
set_option linter.unusedVariables false
set_option maxHeartbeats 1000000 in
theorem law (s : Sha.S8) (b : Value) (l : List UInt8) (n : Nat) (x : Value) (os : List (Int × List (List UInt8))) (cells : List Value) (h : Heap) (T : Tab h) (hn64 : n < 18446744073709551616) (hl : l.length ≤ 1048576)
    (Rb : RD (fun k => k < h.size) h b l) (R : OpsD (fun k => k < h.size) h x os cells) (hos : ∀ (i : Nat) (o : Int × List (List UInt8)), os[i]? = some o → o.2.flatten.length + o.2.length ≤ 1048576) :
    Fx Tryd.prog 7 #[.agg (stateC s b n).toArray, x] h fun u h' => u = .bool true ∧ ExtH h h' := by
  refine fn_of 92 Tryd.func7 rfl (by kernel_rfl) rfl (by simp) ?_
  obtain ⟨a, c, hfx, hlen⟩ := R.fix
  obtain ⟨ba, bc, hbe⟩ := Rb.1.len
  have hbone : b.oneCell' = true := by subst hbe; rfl
  have hmax : maxLen < 9223372036854775808 := by decide
  have hT0 : 0 < h.size := T.lt
  subst hfx
  refine cw_seq (cw_region rfl ?_)
  conv => whnf
  intro h1 n1
  have z1 := n1.size
  have y1 : Blk h1 h.size (stateC s b n) 43 := n1.blk
  have x1 := n1.ext
  clear n1
  refine cw_seq (cw_region rfl ?_)
  conv => whnf
  refine ⟨_, by rfl, y1.all, ?_⟩
  conv => whnf
  refine ⟨_, rfl, _, copy_fn (RB.more Rb.1 x1) (by omega), ?_⟩
  rintro _ h2 ⟨v2, rfl, o2, x2, f2⟩
  have z2 := x2.size
  conv => whnf
  intro h3 n3
  have z3 := n3.size
  have y3 : Blk h3 h2.size (stateC ⟨0, 0, 0, 0, 0, 0, 0, 0⟩ (.slice none 0 0) 0) 43 := n3.blk
  have x3 := n3.ext
  clear n3
  conv => whnf
  refine ⟨_, _, y3, ⟨(show (10 : Nat) ≤ 10 by decide), by rfl, stateC_one _ _ _ (OB.one o2)⟩, ?_⟩
  intro h4 w4
  replace w4 := w4.cast (l' := stateC s v2 n) (by rfl)
  have z4 := w4.size
  have y4 := w4.new
  have g2 : ∀ k, ob v2 k → h1.size ≤ k ∧ k < h2.size := fun k hk => ⟨f2 k hk, OwnS.lt o2 hk⟩
  have o4 : OB h4 v2 l := OwnS.keep (OwnS.more o2 x3) w4.chg (fun k hk e => by have := g2 k hk; omega)
  have y14 := w4.blk (x3.blk (x2.blk y1)) (by omega)
  have x04 : ExtH h h4 := ⟨by omega, fun b hb => by rw [w4.block b (by omega), x3.block b (by omega), x2.block b (by omega), x1.block b hb]⟩
  generalize hb2 : h2.size = b2 at *
  clear w4 y3 o2 f2 y1 x2 x3
  refine cw_seq (cw_region rfl ?_)
  conv => whnf
  refine ⟨_, by rfl, y4.all, ?_⟩
  conv => whnf
  refine ⟨_, rfl, _, load_any o4.r hn64, ?_⟩
  rintro u h5 ⟨x5, hu⟩
  have z5 := x5.size
  have rb5 := RB.more Rb.1 (x04.trans x5)
  rcases hu with ⟨hok, q, v5, rfl, hq, H5, f5⟩ | ⟨hno, rfl⟩
  · have he : loadErr l n = 0 := if_pos hok
    conv => whnf
    refine cw_seq (cw_region rfl ?_)
    conv => whnf
    refine ⟨_, by rfl, (x5.blk y14).all, ?_⟩
    conv => whnf
    refine ⟨_, rfl, _, rload_fn rb5 hn64, ?_⟩
    rw [he]
    rintro _ h6 ⟨rfl, x6⟩
    have z6 := x6.size
    have x46 := x5.trans x6
    refine cw_seq (cw_seq (cw_region rfl ?_))
    conv => whnf
    refine ⟨_, rfl, _, num_fn _ h6, ?_⟩
    rintro _ h7 ⟨rfl, e⟩
    subst h7
    conv => whnf
    refine ⟨.bool true, fun w => by kernel_rfl, ?_⟩
    conv => whnf
    refine ⟨.bool false, fun w => by kernel_rfl, ?_⟩
    conv => whnf
    refine ⟨_, by rfl, (x46.blk y4).all, ?_⟩
    conv => whnf
    refine ⟨_, by rfl, (x46.blk y14).all, ?_⟩
    conv => whnf
    refine ⟨_, rfl, _, same_fn (OB.r (OwnS.more o4 x46)) (RB.more rb5 x6), ?_⟩
    rintro _ h7 ⟨rfl, x7⟩
    have z7 := x7.size
    conv => whnf
    refine cw_false rfl (cw_skip ?_)
    refine cw_seq (cw_seq (cw_region rfl ?_))
    conv => whnf
    refine cw_false rfl (cw_skip ?_)
    -- what was handed in is written over
    have x47 := x46.trans x7
    have Y7 := x47.blk y4
    have Y17 := x47.blk y14
    have O7 : OB h7 v2 l := OwnS.more o4 x47
    have Q7 : HashAt h7 q v5 s l n := H5.more (x6.trans x7)
    have x07 := x04.trans x47
    have lq := H5.blk.lt
    have lv5 : ∀ k, ob v5 k → h4.size ≤ k ∧ k < h5.size := fun k hk => ⟨f5 k hk, OwnS.lt H5.own hk⟩
    have z07 := x07.size
    clear y4 y14 o4 H5 rb5 x47 x46
    obtain ⟨a2, k2, e2⟩ := O7.r.len
    subst e2
    refine cw_seq (cw_seq (cw_region rfl ?_))
    conv => whnf
    refine cw_block ?_
    refine cw_loop (S := Nat × List UInt8) (fun r => [(1, .slice a os.length c), (2, .pointer (some ⟨h.size, 0, none⟩)), (5, .pointer (some ⟨b2, 0, none⟩)), (6, .pointer (some ⟨q, 0, none⟩)), (9, .int .i64 (r.1 : Int))])
      (fun r h' => r.1 ≤ l.length ∧ r.2.length = l.length ∧ Blk h' b2 (stateC s (.slice a2 l.length k2) n) 43 ∧ Blk h' h.size (stateC s b n) 43 ∧ OB h' (.slice a2 l.length k2) r.2 ∧ HashAt h' q v5 s l n ∧ ExtH h h' ∧ h7.size ≤ h'.size) (fun r => l.length - r.1) (0, l)
      ⟨rfl, rfl, rfl, rfl, rfl, trivial⟩ ⟨Nat.zero_le _, rfl, Y7, Y17, O7, Q7, x07, Nat.le_refl _⟩ ?_
    clear Y7 Y17 O7 Q7 x07
    rintro ⟨t, l7⟩ h8 ⟨ht, hl7, Y7, Y17, O7, Q7, x07, z8⟩
    simp only [] at ht hl7 O7
    refine cw_seq (cw_seq (cw_region rfl ?_))
    conv => whnf
    refine ⟨_, Y7.rd (o := 8) rfl, ?_⟩
    conv => whnf
    by_cases hlt : t < l.length
    · refine cw_yes rfl (by show (t : Int) < (l.length : Int); omega) (cw_skip ?_)
      obtain ⟨g, rfl, put⟩ := OB.put O7 t (by omega)
      have gg := g2 g (ob_slice.2 rfl)
      refine cw_seq (cw_block (cw_region rfl ?_))
      conv => whnf
      refine ⟨_, Y7.rd (o := 8) rfl, ?_⟩
      conv => whnf
      refine ⟨⟨by omega, by show (t : Int) < ((l.length : Nat) : Int); omega⟩, ?_⟩
      conv => whnf
      rw [show 0 + ((t : Int)).toNat = t by omega]
      refine put (u8v 77) 77 rfl _ (fun h9 c9 o9 => ?_)
      have z9 := c9.size
      refine cw_region rfl ?_
      exact ⟨(t + 1, l7.set t 77), ⟨rfl, rfl, rfl, rfl, slot_i64 _ _ (by simp only []; omega) (by simp only []; omega), trivial⟩,
        ⟨hlt, by simp [hl7], c9.blk Y7 (by omega), c9.blk Y17 (by omega), o9, Q7.keep c9 (by omega) (fun k hk e => by have := lv5 k hk; omega), ⟨by have := x07.size; omega, fun b hb => by rw [c9.block b (by have := x07.size; omega) (by omega), x07.block b hb]⟩, by omega⟩,
        by show l.length - (t + 1) < l.length - t; omega⟩
    · refine cw_no rfl (by show ¬ (t : Int) < (l.length : Int); omega) (cw_exit ?_)
      clear O7 Y7 hlt ht hl7
      have x08 := x07
      clear x07
      -- the pair
      obtain ⟨G, hG⟩ : ∃ G : Fr → Heap → Prop, G = fun fr' h' => ∃ (f : Nat → HI) (pb : Nat) (cs : List Value), fr' = [(1, .slice a os.length c), (10, .pointer (some ⟨pb, 0, none⟩)), (60, .agg (pairC f 0).toArray)] ∧ PInv h.size h' f ∧ cs.length = 23 ∧ Blk h' pb cs 47 ∧ ExtH h h' ∧ h.size ≤ pb := ⟨_, rfl⟩
      have good : ∀ (hL : Heap) (q2 : Nat) (v3 : Value) (pb : Nat) (cs : List Value), ExtH h8 hL → HashAt hL q2 (.slice none 0 0) Sha.H0 [] 0 → h8.size ≤ q2 → OB hL v3 l → (∀ k, ob v3 k → h8.size ≤ k) → cs.length = 23 → Blk hL pb cs 47 → h8.size ≤ pb →
          G [(1, .slice a os.length c), (10, .pointer (some ⟨pb, 0, none⟩)), (60, .agg (.pointer (some ⟨q, 0, none⟩) :: .pointer (some ⟨q2, 0, none⟩) :: (stateC s v3 n ++ (stateC Sha.H0 (.slice none 0 0) 0 ++ [.int .i64 ((0 : Nat) : Int)]))).toArray)] hL := by
        intro hL q2 v3 pb cs xL Q2 hq2 O3 f3 hcs yb hpb
        subst hG
        have z08 := x08.size
        refine ⟨fun i => if i = 0 then ⟨q, v5, s, l, n, v3⟩ else ⟨q2, .slice none 0 0, Sha.H0, [], 0, .slice none 0 0⟩, pb, cs, rfl, ⟨fun j hj => ?_, fun i j hi hj hij => ⟨?_, ?_⟩, fun i j hi hj => ?_⟩, hcs, yb, x08.trans xL, by omega⟩
        · rcases two hj with rfl | rfl
          · exact ⟨Q7.more xL, O3, hok.2, hok.1, by show h.size ≤ q; omega, fun k hk => by have := lv5 k hk; omega, fun k hk => by have := f3 k hk; omega⟩
          · exact ⟨Q2, OB.nil hL, rfl, Nat.zero_le _, by show h.size ≤ q2; omega, fun k hk => (ob_nil hk).elim, fun k hk => (ob_nil hk).elim⟩
        · have := Q7.blk.lt
          rcases two hi with rfl | rfl <;> rcases two hj with rfl | rfl
          · exact absurd rfl hij
          · show q ≠ q2; omega
          · show q2 ≠ q; omega
          · exact absurd rfl hij
        · rcases two hi with rfl | rfl <;> rcases two hj with rfl | rfl
          · exact absurd rfl hij
          · exact fun k _ e => ob_nil e
          · exact fun k hk _ => ob_nil hk
          · exact absurd rfl hij
        · rcases two hi with rfl | rfl <;> rcases two hj with rfl | rfl
          · intro k hk e
            have h1 := f3 k hk
            have h2 := OwnS.lt Q7.own e
            omega
          · exact fun k _ e => ob_nil e
          · exact fun k hk _ => ob_nil hk
          · exact fun k hk _ => ob_nil hk
      refine cw_seq (cw_tree_to (by kernel_rfl) 9 (.q 0 (.q 3 (.i2 1 (.q 2 (.i2 4 (.q 5 (.q 6 (.q 7 (.i1 8 .leaf)))) 8 (.i1 4 (.q 5 (.q 6 (.q 7 .leaf)))))) 8 (.i1 1 (.q 2 (.i1 4 (.q 5 (.q 6 (.q 7 .leaf))))))))) (by kernel_rfl) rfl G ?_ ?_)
      · conv => whnf
        refine ⟨_, by rfl, Y17.all, ?_⟩
        conv => whnf
        refine ⟨?_, ?_⟩
        · intro k1a e1a
          refine ⟨_, rfl, _, new_fn k1a, ?_⟩
          rintro _ k1b ⟨q2, rfl, hq2, Q2, e1b⟩
          refine ⟨e1b.toU _, ?_⟩
          intro k1c e1c
          conv => whnf
          refine ⟨_, rfl, #[.pointer (some ⟨q, 0, none⟩), .pointer (some ⟨q2, 0, none⟩)], fun w => by kernel_rfl, ?_⟩
          conv => whnf
          refine ⟨?_, ?_⟩
          · intro k2a e2a
            refine ⟨_, rfl, _, copy_fn (RB.more Rb.1 (x08.trans (((e1a.trans e1b).trans e1c).trans e2a))) (by omega), ?_⟩
            rintro _ k2b ⟨v3, rfl, O3, e2b, f3⟩
            refine ⟨e2b.toU _, ?_⟩
            intro k2c e2c
            conv => whnf
            refine ⟨_, rfl, _, fun h' _ => rnew_fn h', ?_⟩
            conv => whnf
            refine ⟨_, rfl, (stateC s v3 n ++ stateC Sha.H0 (.slice none 0 0) 0).toArray, fun w => by kernel_rfl, ?_⟩
            conv => whnf
            refine ⟨_, rfl, (.pointer (some ⟨q, 0, none⟩) :: .pointer (some ⟨q2, 0, none⟩) :: (stateC s v3 n ++ (stateC Sha.H0 (.slice none 0 0) 0 ++ [.int .i64 ((0 : Nat) : Int)]))).toArray, fun w => by kernel_rfl, ?_⟩
            conv => whnf
            intro k3a e3a k3b m3
            obtain ⟨cs, hcs, yb⟩ : ∃ cs, cs.length = 23 ∧ Blk k3b k3a.size cs 47 := ⟨_, rfl, m3.blk⟩
            have e3b := m3.ext
            clear m3
            refine ⟨e3b.toU _, ?_⟩
            intro k3c e3c
            conv => whnf
            intro hL eL
            have sN := e1a.size
            have sC := (((e1a.trans e1b).trans e1c).trans e2a).size
            have sA := ((((((e1a.trans e1b).trans e1c).trans e2a).trans e2b).trans e2c).trans e3a).size
            refine ⟨_, ?_, good hL q2 v3 k3a.size cs (((((((((e1a.trans e1b).trans e1c).trans e2a).trans e2b).trans e2c).trans e3a).trans e3b).trans e3c).trans eL) (Q2.more (((((((e1c.trans e2a).trans e2b).trans e2c).trans e3a).trans e3b).trans e3c).trans eL)) (by omega) (OwnS.more O3 ((((e2c.trans e3a).trans e3b).trans e3c).trans eL)) (fun k hk => by have := f3 k hk; omega) hcs ((e3c.trans eL).blk yb) (by omega)⟩
            exact ⟨rfl, rfl, rfl, trivial⟩
          · intro k2a e2a k2b m2
            obtain ⟨cs, hcs, yb⟩ : ∃ cs, cs.length = 23 ∧ Blk k2b k2a.size cs 47 := ⟨_, rfl, m2.blk⟩
            have e2b := m2.ext
            clear m2
            refine ⟨e2b.toU _, ?_⟩
            intro k2c e2c
            conv => whnf
            intro k3a e3a
            refine ⟨_, rfl, _, copy_fn (RB.more Rb.1 (x08.trans ((((((e1a.trans e1b).trans e1c).trans e2a).trans e2b).trans e2c).trans e3a))) (by omega), ?_⟩
            rintro _ k3b ⟨v3, rfl, O3, e3b, f3⟩
            refine ⟨e3b.toU _, ?_⟩
            intro k3c e3c
            conv => whnf
            refine ⟨_, rfl, _, fun h' _ => rnew_fn h', ?_⟩
            conv => whnf
            refine ⟨_, rfl, (stateC s v3 n ++ stateC Sha.H0 (.slice none 0 0) 0).toArray, fun w => by kernel_rfl, ?_⟩
            conv => whnf
            refine ⟨_, rfl, (.pointer (some ⟨q, 0, none⟩) :: .pointer (some ⟨q2, 0, none⟩) :: (stateC s v3 n ++ (stateC Sha.H0 (.slice none 0 0) 0 ++ [.int .i64 ((0 : Nat) : Int)]))).toArray, fun w => by kernel_rfl, ?_⟩
            conv => whnf
            intro hL eL
            have sN := e1a.size
            have sC := ((((((e1a.trans e1b).trans e1c).trans e2a).trans e2b).trans e2c).trans e3a).size
            have sA := (((e1a.trans e1b).trans e1c).trans e2a).size
            refine ⟨_, ?_, good hL q2 v3 k2a.size cs (((((((((e1a.trans e1b).trans e1c).trans e2a).trans e2b).trans e2c).trans e3a).trans e3b).trans e3c).trans eL) (Q2.more (((((((e1c.trans e2a).trans e2b).trans e2c).trans e3a).trans e3b).trans e3c).trans eL)) (by omega) (OwnS.more O3 (e3c.trans eL)) (fun k hk => by have := f3 k hk; omega) hcs (((((e2c.trans e3a).trans e3b).trans e3c).trans eL).blk yb) (by omega)⟩
            exact ⟨rfl, rfl, rfl, trivial⟩
        · intro k1a e1a k1b m1
          obtain ⟨cs, hcs, yb⟩ : ∃ cs, cs.length = 23 ∧ Blk k1b k1a.size cs 47 := ⟨_, rfl, m1.blk⟩
          have e1b := m1.ext
          clear m1
          refine ⟨e1b.toU _, ?_⟩
          intro k1c e1c
          conv => whnf
          intro k2a e2a
          refine ⟨_, rfl, _, new_fn k2a, ?_⟩
          rintro _ k2b ⟨q2, rfl, hq2, Q2, e2b⟩
          refine ⟨e2b.toU _, ?_⟩
          intro k2c e2c
          conv => whnf
          refine ⟨_, rfl, #[.pointer (some ⟨q, 0, none⟩), .pointer (some ⟨q2, 0, none⟩)], fun w => by kernel_rfl, ?_⟩
          conv => whnf
          intro k3a e3a
          refine ⟨_, rfl, _, copy_fn (RB.more Rb.1 (x08.trans ((((((e1a.trans e1b).trans e1c).trans e2a).trans e2b).trans e2c).trans e3a))) (by omega), ?_⟩
          rintro _ k3b ⟨v3, rfl, O3, e3b, f3⟩
          refine ⟨e3b.toU _, ?_⟩
          intro k3c e3c
          conv => whnf
          refine ⟨_, rfl, _, fun h' _ => rnew_fn h', ?_⟩
          conv => whnf
          refine ⟨_, rfl, (stateC s v3 n ++ stateC Sha.H0 (.slice none 0 0) 0).toArray, fun w => by kernel_rfl, ?_⟩
          conv => whnf
          refine ⟨_, rfl, (.pointer (some ⟨q, 0, none⟩) :: .pointer (some ⟨q2, 0, none⟩) :: (stateC s v3 n ++ (stateC Sha.H0 (.slice none 0 0) 0 ++ [.int .i64 ((0 : Nat) : Int)]))).toArray, fun w => by kernel_rfl, ?_⟩
          conv => whnf
          intro hL eL
          have sN := (((e1a.trans e1b).trans e1c).trans e2a).size
          have sC := ((((((e1a.trans e1b).trans e1c).trans e2a).trans e2b).trans e2c).trans e3a).size
          have sA := e1a.size
          refine ⟨_, ?_, good hL q2 v3 k1a.size cs (((((((((e1a.trans e1b).trans e1c).trans e2a).trans e2b).trans e2c).trans e3a).trans e3b).trans e3c).trans eL) (Q2.more ((((e2c.trans e3a).trans e3b).trans e3c).trans eL)) (by omega) (OwnS.more O3 (e3c.trans eL)) (fun k hk => by have := f3 k hk; omega) hcs ((((((((e1c.trans e2a).trans e2b).trans e2c).trans e3a).trans e3b).trans e3c).trans eL).blk yb) (by omega)⟩
          exact ⟨rfl, rfl, rfl, trivial⟩
      · subst hG
        rintro _ h9 ⟨f, pb, cs, rfl, I9, hcs, y9, x09, hpb⟩
        have z9 := x09.size
        conv => whnf
        refine ⟨_, _, y9, ⟨by rw [hcs]; show 0 + 23 ≤ 23; omega, by rfl, by simpa using pairC_one f 0 (OB.one (I9.ok 0 (by omega)).own) (OB.one (I9.ok 1 (by omega)).own)⟩, ?_⟩
        intro h10 w10
        replace w10 := w10.cast (l' := pairC f 0) (by simp [splice, hcs, pairC, stI, stateC])
        have z10 := w10.size
        have I10 := I9.wrote w10 y9 (by decide) (by decide)
        have y10 := w10.new
        have low10 : ∀ b, b < h.size → h10[b]? = h[b]? := fun b hb => by rw [w10.block b (by omega), x09.block b hb]
        have T10 := T.old hT0 low10
        have l10 := y10.lt
        clear w10 y9 I9 good
        refine cw_seq (cw_region rfl ?_)
        conv => whnf
        refine ⟨⟨by decide, by decide⟩, ?_⟩
        conv => whnf
        refine ⟨_, y10.rd (o := 1) (pair_ptr f 0 1 (by omega)), ?_⟩
        conv => whnf
        refine ⟨.bool true, fun w => by kernel_rfl, ?_⟩
        conv => whnf
        refine ⟨pairC f 0, by rfl, y10.all, ?_⟩
        conv => whnf
        refine ⟨_, rfl, _, tells_fn T10 I10, ?_⟩
        rintro _ h11 ⟨rfl, x11⟩
        have z11 := x11.size
        have I11 := I10.more x11
        have y11 := x11.blk y10
        have low11 : ∀ b, b < h.size → h11[b]? = h[b]? := fun b hb => by rw [x11.block b (by omega), low10 b hb]
        refine cw_seq (cw_seq (cw_region rfl ?_))
        conv => whnf
        refine cw_block ?_
        refine cw_loop (S := Nat × (Nat → HI) × Nat) (fun s => [(1, .slice a os.length c), (10, .pointer (some ⟨pb, 0, none⟩)), (11, .bool true), (12, .int .i64 (s.1 : Int))])
          (fun s h' => s.1 ≤ os.length ∧ s.2.2 < 2 ∧ PInv h.size h' s.2.1 ∧ Blk h' pb (pairC s.2.1 s.2.2) 47 ∧ (∀ b, b < h.size → h'[b]? = h[b]?) ∧ pb < h'.size) (fun s => os.length - s.1) (0, f, 0) ⟨rfl, rfl, rfl, rfl, trivial⟩
          ⟨Nat.zero_le _, (show 0 < 2 by omega), I11, y11, low11, by omega⟩ ?_
        clear I10 I11 y10 y11 low10 low11 T10 x11 x09 x08 Q7 Y17
        rintro ⟨t, f, i⟩ h1 ⟨ht, hi, I1, y1, low1, l1⟩
        simp only [] at ht hi I1 y1
        have x1 : h.size ≤ h1.size := by omega
        have T1 := T.old hT0 low1
        refine cw_seq (cw_seq (cw_region rfl ?_))
        refine ops_q rfl rfl (fun k hk => hk) ?_
        refine ops_q rfl rfl (fun k hk => hk) ?_
        refine ops_q rfl rfl (fun k hk => hk) ?_
        by_cases hlt : t < os.length
        · refine ops_q (v := .bool true) rfl rfl (fun k hk => say true (decide_eq_true (by show (t : Int) < (os.length : Int); omega)) hk) ?_
          conv => whnf
          refine cw_true rfl (cw_skip ?_)
          have R1 : OpsD (fun k => k < h.size) h1 (.slice a os.length c) os cells := by
            have cc : Chg (fun b => h.size ≤ b) h h1 := ⟨x1, fun b _ hn => low1 b (by omega)⟩
            exact R.keep cc (fun b hb => by omega)
          obtain ⟨gb, go, d, ms, v, pv, rfl, ho, hr, hp⟩ := R1.row t hlt
          have hpd : PD (fun k => k < h.size) h1 v ms pv := hp
          have hms := hos t _ ho
          refine cw_seq (cw_block ?_)
          refine cw_keeps (by kernel_rfl) 10 (fun _ => False) (.q 1 (.q 2 (.q 3 (.i2 0 (.i1 4 (.i1 5 (.q 6 (.q 7 (.q 8 (.i1 9 .leaf)))))) 4 (.i1 0 (.i1 5 (.q 6 (.q 7 (.q 8 (.i1 9 .leaf)))))))))) (by kernel_rfl) rfl ?_
          conv => whnf
          have hr' : ∀ {h' : Heap}, ExtH h1 h' → ∀ o, o = go + t * 2 → rdN h' gb o [.int .i64 d, v] := fun e o ho => by
            subst ho
            exact (e.chg (S := fun _ => False)).rdN hr (fun e => e)
          refine ⟨_, fun _ _ => rfl, ?_⟩
          conv => whnf
          refine ⟨_, fun _ _ => rfl, ?_⟩
          conv => whnf
          refine ⟨.pointer (some ⟨gb, go + ((t : Int)).toNat * 2, none⟩), fun _ _ => ⟨⟨by omega, by show (t : Int) < ((os.length : Nat) : Int); omega⟩, rfl⟩, ?_⟩
          conv => whnf
          refine ⟨?_, ?_⟩
          · intro h2 X1
            refine ⟨pairC f i, by rfl, (X1.blk y1).all, ExtP.refl _ _, ?_⟩
            intro h3 X2
            conv => whnf
            intro h4 X3
            refine ⟨[.int .i64 d, v], by rfl, hr' (X1.trans (X2.trans X3)) _ (show go + ((t : Int)).toNat * 2 = go + t * 2 by omega), ExtP.refl _ _, ?_⟩
            intro h5 X4
            conv => whnf
            intro h6 X5
            have xx := ((X1.trans X2).trans (X3.trans X4)).trans X5
            have zx := xx.size
            have I6 := I1.more xx
            have R6 := hpd.keep (xx.chg (S := fun _ => False)) (fun _ _ e => e)
            refine ⟨_, rfl, _, calls_fn (T1.more xx) hT0 (by omega) hi I6 d R6 hms, ?_⟩
            rintro _ h7 ⟨f', i', rfl, hi', I7, c7⟩
            have z7 := c7.size
            have y7 := I6.other hi c7 (xx.blk y1) (by decide) (by decide)
            have low7 := I6.low hi (by omega) c7
            refine ⟨⟨z7, fun _ e => e.elim⟩, ?_⟩
            intro h8 x8
            conv => whnf
            refine ⟨_, fun _ _ => rfl, ?_⟩
            conv => whnf
            refine ⟨_, fun _ _ => rfl, ?_⟩
            conv => whnf
            refine ⟨_, fun _ _ => rfl, ?_⟩
            conv => whnf
            intro h9 x9
            have I9 := I7.more (x8.trans x9)
            refine ⟨_, _, (x8.trans x9).blk y7, ⟨by show 0 + 23 ≤ 23; omega, by rfl, by simpa using pairC_one f' i' (OB.one (I9.ok 0 (by omega)).own) (OB.one (I9.ok 1 (by omega)).own)⟩, ?_⟩
            intro h10 w10
            replace w10 := w10.cast (l' := pairC f' i') (by simp [splice, pairC, stI, stateC])
            have z8 := x8.size; have z9 := x9.size; have z10 := w10.size
            refine ⟨⟨by omega, fun _ e => e.elim⟩, ?_⟩
            intro h11 x11
            conv => whnf
            intro h12 x12
            have z11 := x11.size; have z12 := x12.size
            have I12 := (I9.wrote w10 ((x8.trans x9).blk y7) (by decide) (by decide)).more (x11.trans x12)
            refine cw_region rfl ?_
            exact ⟨(t + 1, f', i'), ⟨rfl, rfl, rfl, slot_i64 _ _ (by simp only []; omega) (by simp only []; omega), trivial⟩, ⟨hlt, hi', I12, (x11.trans x12).blk w10.new, fun b hb => by
              rw [(x11.trans x12).block b (by omega), w10.block b (by omega), (x8.trans x9).block b (by omega), low7 b hb, xx.block b (by omega), low1 b hb], by omega⟩, by show os.length - (t + 1) < os.length - t; omega⟩
          · intro h2 X1
            refine ⟨[.int .i64 d, v], by rfl, hr' X1 _ (show go + ((t : Int)).toNat * 2 = go + t * 2 by omega), ExtP.refl _ _, ?_⟩
            intro h3 X2
            conv => whnf
            intro h4 X3
            refine ⟨pairC f i, by rfl, ((X1.trans (X2.trans X3)).blk y1).all, ExtP.refl _ _, ?_⟩
            intro h5 X4
            conv => whnf
            intro h6 X5
            have xx := ((X1.trans X2).trans (X3.trans X4)).trans X5
            have zx := xx.size
            have I6 := I1.more xx
            have R6 := hpd.keep (xx.chg (S := fun _ => False)) (fun _ _ e => e)
            refine ⟨_, rfl, _, calls_fn (T1.more xx) hT0 (by omega) hi I6 d R6 hms, ?_⟩
            rintro _ h7 ⟨f', i', rfl, hi', I7, c7⟩
            have z7 := c7.size
            have y7 := I6.other hi c7 (xx.blk y1) (by decide) (by decide)
            have low7 := I6.low hi (by omega) c7
            refine ⟨⟨z7, fun _ e => e.elim⟩, ?_⟩
            intro h8 x8
            conv => whnf
            refine ⟨_, fun _ _ => rfl, ?_⟩
            conv => whnf
            refine ⟨_, fun _ _ => rfl, ?_⟩
            conv => whnf
            refine ⟨_, fun _ _ => rfl, ?_⟩
            conv => whnf
            intro h9 x9
            have I9 := I7.more (x8.trans x9)
            refine ⟨_, _, (x8.trans x9).blk y7, ⟨by show 0 + 23 ≤ 23; omega, by rfl, by simpa using pairC_one f' i' (OB.one (I9.ok 0 (by omega)).own) (OB.one (I9.ok 1 (by omega)).own)⟩, ?_⟩
            intro h10 w10
            replace w10 := w10.cast (l' := pairC f' i') (by simp [splice, pairC, stI, stateC])
            have z8 := x8.size; have z9 := x9.size; have z10 := w10.size
            refine ⟨⟨by omega, fun _ e => e.elim⟩, ?_⟩
            intro h11 x11
            conv => whnf
            intro h12 x12
            have z11 := x11.size; have z12 := x12.size
            have I12 := (I9.wrote w10 ((x8.trans x9).blk y7) (by decide) (by decide)).more (x11.trans x12)
            refine cw_region rfl ?_
            exact ⟨(t + 1, f', i'), ⟨rfl, rfl, rfl, slot_i64 _ _ (by simp only []; omega) (by simp only []; omega), trivial⟩, ⟨hlt, hi', I12, (x11.trans x12).blk w10.new, fun b hb => by
              rw [(x11.trans x12).block b (by omega), w10.block b (by omega), (x8.trans x9).block b (by omega), low7 b hb, xx.block b (by omega), low1 b hb], by omega⟩, by show os.length - (t + 1) < os.length - t; omega⟩
        · refine ops_q (v := .bool false) rfl rfl (fun k hk => say false (decide_eq_false (by show ¬ (t : Int) < (os.length : Int); omega)) hk) ?_
          conv => whnf
          refine cw_false rfl (cw_exit ?_)
          refine cw_seq (cw_region rfl ?_)
          conv => whnf
          refine ⟨pairC f i, by rfl, y1.all, ?_⟩
          conv => whnf
          refine ⟨_, rfl, _, tells_fn T1 I1, ?_⟩
          rintro _ h2 ⟨rfl, x2⟩
          have z2 := x2.size
          exact cw_ret ⟨rfl, ⟨by omega, fun b hb => by rw [x2.block b (by omega), low1 b hb]⟩⟩
  · have he : loadErr l n = 20 := if_neg hno
    conv => whnf
    refine cw_seq (cw_region rfl ?_)
    conv => whnf
    refine ⟨_, by rfl, (x5.blk y14).all, ?_⟩
    conv => whnf
    refine ⟨_, rfl, _, rload_fn rb5 hn64, ?_⟩
    rw [he]
    rintro _ h6 ⟨rfl, x6⟩
    have z6 := x6.size
    have x46 := x5.trans x6
    refine cw_seq (cw_seq (cw_region rfl ?_))
    conv => whnf
    refine ⟨_, rfl, _, num_fn _ h6, ?_⟩
    rintro _ h7 ⟨rfl, e⟩
    subst h7
    conv => whnf
    refine ⟨.bool false, fun w => by kernel_rfl, ?_⟩
    conv => whnf
    refine ⟨.bool false, fun w => by kernel_rfl, ?_⟩
    conv => whnf
    refine ⟨_, by rfl, (x46.blk y4).all, ?_⟩
    conv => whnf
    refine ⟨_, by rfl, (x46.blk y14).all, ?_⟩
    conv => whnf
    refine ⟨_, rfl, _, same_fn (OB.r (OwnS.more o4 x46)) (RB.more rb5 x6), ?_⟩
    rintro _ h7 ⟨rfl, x7⟩
    conv => whnf
    refine cw_false rfl (cw_skip ?_)
    refine cw_seq (cw_seq (cw_region rfl ?_))
    conv => whnf
    refine cw_true rfl (cw_seq (cw_region rfl ?_))
    conv => whnf
    refine ⟨_, rfl, _, awake_fn h7, ?_⟩
    rintro _ h8 ⟨rfl, x8⟩
    exact cw_ret ⟨rfl, x04.trans (x46.trans (x7.trans x8))⟩
--ROW 'treadlelaw02.ShaLoads' 'shaLoads' 'state,ops' 'uptocard' 'law s0 b0 l0 n0 v1 l1 cells1 W.heap (tab_of hL) N0 (by omega) R0 R1 (fun i o ho => by have := C1 i o ho; omega)'
theorem own : ownKnob Tryd.prog.godebug = none := by kernel_rfl
theorem laidOut : laidOutB Tryd.prog = true := by kernel_rfl
theorem contract (H : Type) (enc : TypeId × Value → H) (W : World) (base : Nat) (args : Array Value) (ds gs : List (DataW H)) (before : List MemPlace) (hk : Rows.uptoSmall H (ds ++ gs) = true)
    (hval0 : ∀ (j : Nat) t v, Tryd.f7.params[j]? = some t → args[j]? = some v → Value.okWide Tryd.prog W .any base t v)
    (hW : DataW.Whole enc Tryd.prog Tryd.f7.params.toList Rows.shaLoadsSpec.vars false W args.toList ds gs before) (hL : laidMetH Tryd.prog Rows.shaLoadsUptoRow.laid W) :
    Calls Tryd.prog 7 args W fun e W' => ∃ v, e = .returned v ∧ Rows.shaLoadsSpec.post enc Tryd.prog Tryd.f7 false true false false W args v W' := by
  have hval := hval0
  have hW' := hW
  obtain ⟨p, q, hA0, hV, rfl, hfz, hnd⟩ := hW
  have hA : DataW.TrodAll enc Tryd.prog W 0 (fun _ => true) true Tryd.f7.params.toList args.toList ds p := hA0
  rw [Tryd.params7] at hA hval
  obtain ⟨v0, vs0, d0, ds0, p0, q0, hargs, rfl, rfl, h0, r0⟩ := trodAll_cons hA
  obtain ⟨v1, vs1, d1, ds1, p1, q1, rfl, rfl, rfl, h1, r1⟩ := trodAll_cons r0
  obtain ⟨rfl, rfl, rfl⟩ := trodAll_nil r1
  obtain rfl : args = #[v0, v1] := by cases args; simp_all
  obtain ⟨rfl, rfl⟩ := trodVars_none hV
  have k0 := h0
  have lt0 : ∀ x ∈ p0, x.block < W.heap.size := by obtain ⟨m, hm⟩ := k0; exact DataW.trod_lt m _ _ _ hm
  obtain ⟨s0, b0, l0, n0, rfl, R0, N0, B0⟩ := open_state (hval 0 43 v0 rfl rfl) h0
  have k1 := h1
  have lt1 : ∀ x ∈ p1, x.block < W.heap.size := by obtain ⟨m, hm⟩ := k1; exact DataW.trod_lt m _ _ _ hm
  obtain ⟨l1, cells1, R1, B1, C1⟩ := open_ops (hval 1 36 v1 rfl rfl) h1
  have hb := hk
  simp only [Rows.uptoSmall, decide_eq_true_eq, List.append_nil, Rows.uptoBulkAll, Rows.uptoBulk] at hb
  clear hA0 hval0
  refine (Fx.calls (by kernel_rfl) (law s0 b0 l0 n0 v1 l1 cells1 W.heap (tab_of hL) N0 (by omega) R0 R1 (fun i o ho => by have := C1 i o ho; omega))).mono fun e W' ⟨he, bel⟩ => ?_
  subst he
  exact ⟨_, rfl, _, _, _, [], _, [], hW', trodAll_mk1 (shut_bool Tryd.underlying4 _), (trodAll_cons_mk (Below.trod laidOut (by kernel_rfl) (of_decide_eq_true (by kernel_rfl)) k0 bel lt0) (trodAll_cons_mk (Below.trod laidOut (by kernel_rfl) (of_decide_eq_true (by kernel_rfl)) k1 bel lt1) trodAll_mk0)), rfl, bel.frame _, fun h => by cases h⟩
theorem laid_met (os : Os) : laidMet Tryd.prog Rows.shaLoadsUptoRow.laid ((laidWorld os).forCall (fun _ _ => 0) ⟨#[], #[Value.agg (List.replicate 8 (Value.int .u32 0) ++ [Value.slice none 0 0, Value.int .u64 0]).toArray, Value.slice none 0 0], []⟩).memory :=
  laidMet_of_run' 8 (by kernel_rfl) (by kernel_rfl)
theorem reads (os : Os) {H : Type} (enc : TypeId × Value → H) : ∃ places, DataW.whole enc Tryd.prog ((laidWorld os).forCall (fun _ _ => 0) ⟨#[], #[Value.agg (List.replicate 8 (Value.int .u32 0) ++ [Value.slice none 0 0, Value.int .u64 0]).toArray, Value.slice none 0 0], []⟩).memory Tryd.f7.params.toList Rows.shaLoadsSpec.vars false (#[Value.agg (List.replicate 8 (Value.int .u32 0) ++ [Value.slice none 0 0, Value.int .u64 0]).toArray, Value.slice none 0 0] : Array Value).toList 8 = some ([.agg [.agg (List.replicate 8 (.lit (.int .u32 0))), .nil, .lit (.int .u64 0)], .nil], [], places) :=
  ⟨[], by kernel_rfl⟩
theorem lifted (os : Os) (started : os.Started) (H : Type) (enc : TypeId × Value → H) (F : Stop.Interp) :
    ReturnsInHanded {} Tryd.checked os 7 .any ((Rows.OpenSpec.upto Rows.shaLoadsSpec).preRow enc Tryd.prog Tryd.f7 Rows.shaLoadsUptoRow.domain false Rows.shaLoadsUptoRow.laid) (((Rows.OpenSpec.upto Rows.shaLoadsSpec).at F).post enc Tryd.prog Tryd.f7 false true false false) := by
  obtain ⟨places, hx⟩ := reads os enc
  refine returnsInHanded_of_row (C := Tryd.checked) (s := Rows.OpenSpec.upto Rows.shaLoadsSpec) own started (by kernel_rfl) Tryd.func7
    (witness_row_at (enc := enc) (C := Tryd.checked) false (laidWorld os) #[Value.agg (List.replicate 8 (Value.int .u32 0) ++ [Value.slice none 0 0, Value.int .u64 0]).toArray, Value.slice none 0 0] rfl (by kernel_rfl) (by kernel_rfl) (by kernel_rfl)
      (OpenSpec.preRow_of_cond 8 hx (by kernel_rfl) (fun k hk => by cases hk; kernel_rfl) (by kernel_rfl) (laid_met os))) ?_
  intro W base args ds gs before hval hW _ hcond _ hL _ _
  exact contract H enc W base args ds gs before (hcond _ rfl) hval hW hL
theorem said : Rows.shaLoadsUptoRow.holds Tryd.pinned (Rows.OpenSpec.upto Rows.shaLoadsSpec) :=
  OpenClaim.holds_of_cond 7 Tryd.f7 rfl rfl rfl rfl rfl rfl rfl ⟨rfl, rfl, rfl, rfl, rfl⟩ rfl rfl rfl rfl rfl (by kernel_rfl) Tryd.func7 (by kernel_rfl)
    (of_decide_eq_true (by kernel_rfl)) (by unfold Func.isWrapper; first | (rw [if_pos (by decide +kernel)]; kernel_rfl) | (rw [if_neg (by decide +kernel)]; exact ⟨rfl, rfl⟩))
    (fun os started H enc _ F => by rw [OpenClaim.pre_eq_preRow]; exact lifted os started H enc F)
theorem plain (f : FuncId) (fn : Func) (hf : Tryd.pinned.checked.prog.funcNamed "treadle/treadlelaw02.ShaLoads" = some f) (hfn : Tryd.pinned.checked.prog.funcs[f]? = some fn) :
    false = Tryd.pinned.checked.prog.looks [] ∧ ∀ (j : Nat) t, fn.params[j]? = some t → Tryd.pinned.checked.prog.wantsStandIn t = false := by
  obtain rfl : f = 7 := Option.some.inj ((show Tryd.prog.funcNamed "treadle/treadlelaw02.ShaLoads" = some 7 by kernel_rfl).symm.trans hf) |>.symm
  obtain rfl : fn = Tryd.f7 := (Option.some.inj (Tryd.func7.symm.trans hfn)).symm
  refine ⟨by kernel_rfl, fun j t ht => ?_⟩
  rw [Tryd.params7] at ht
  have hm : t = 43 ∨ t = 36 := by simpa using Array.mem_of_getElem? ht
  rcases hm with rfl | rfl
  · exact (show Tryd.prog.wantsStandIn 43 = false by kernel_rfl)
  · exact (show Tryd.prog.wantsStandIn 36 = false by kernel_rfl)
theorem over : Rows.ShaLoadsUptoCardSaid :=
  Claim7.holds_tied_plain_at .later [] _ _ _ _ said (fun _ h => by cases h) (by kernel_rfl) (fun _ h => by cases h) shaLoadsUpto_row_tie rfl ⟨rfl, rfl⟩ (by kernel_rfl) rfl plain (by kernel_rfl)
theorem proved : Rows.ShaLoadsUptoCardSaid := over
end Go.Proofs.YtnjimdjojinffaaDoor.shaLoads
