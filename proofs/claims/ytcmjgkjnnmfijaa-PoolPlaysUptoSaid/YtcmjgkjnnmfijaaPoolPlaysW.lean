/-
  PoolPlays: the walk. Printed by tools/genplays.py.
-/
import Derived.Test.YtcmjgkjnnmfijaaPoolDuo
namespace Go.Proofs.Ytcmjgkjnnmfijaa
open Go Vm
set_option maxRecDepth 100000
set_option linter.unusedVariables false
set_option linter.unusedSimpArgs false
set_option maxHeartbeats 2000000
theorem plays_fn {h : Heap} {ov : Value} {os : List (Opv × Value)} (wk sl id : Int) (r : RO h ov os) :
    Fx Try.prog 8 #[.agg #[.int .i64 wk, .int .i64 sl, .int .i64 id], ov] h fun u h' => u = .bool true ∧ ExtH h h' := by
  refine fn_of 147 Try.func8 rfl (by kernel_rfl) rfl (by simp) ?_
  obtain ⟨oa, oc, hoe, hom⟩ := r.fix
  subst hoe
  have hmax : maxLen < 9223372036854775808 := by decide
  refine cw_seq (cw_region rfl ?_)
  conv => whnf
  intro ha na
  have ya : Blk ha h.size [.int .i64 wk, .int .i64 sl, .int .i64 id] 23 := na.blk
  have xa := na.ext
  have za := na.size
  clear na
  refine cw_seq (cw_region rfl ?_)
  conv => whnf
  refine ⟨_, ya.rd (o := 0) rfl, ?_⟩
  conv => whnf
  refine ⟨_, ya.rd (o := 1) rfl, ?_⟩
  conv => whnf
  refine ⟨_, ya.rd (o := 2) rfl, ?_⟩
  conv => whnf
  by_cases hl : okLim wk sl id
  · refine ⟨_, rfl, _, new_yes wk sl id hl ha, ?_⟩
    rintro _ h1 ⟨rfl, A1, x1⟩
    have hwk : 0 < wk := by have := hl.1; omega
    have y1 := x1.blk ya
    have pl := A1.blk.lt
    conv => whnf
    refine cw_seq (cw_region rfl ?_)
    conv => whnf
    refine ⟨_, y1.rd (o := 0) rfl, ?_⟩
    conv => whnf
    refine ⟨_, y1.rd (o := 1) rfl, ?_⟩
    conv => whnf
    refine ⟨_, y1.rd (o := 2) rfl, ?_⟩
    conv => whnf
    refine ⟨_, rfl, _, rnew_yes wk sl id hl h1, ?_⟩
    rintro _ h2 ⟨rfl, x2⟩
    conv => whnf
    intro h3 n3
    have y3 : Blk h3 h2.size (refC 0 0 0 (.slice none 0 0)) 53 := n3.blk
    have x3 := n3.ext
    have z2 := x2.size
    have z3 := n3.size
    clear n3
    conv => whnf
    refine store_ref y3 ?_
    intro h4 w4
    have z4 := w4.size
    have x24 : ExtH h2 h4 := ⟨by omega, fun b hb => by rw [w4.block b (by omega), x3.block b hb]⟩
    have B0 : Both h h4 ha.size h2.size (.slice none 0 0) (.slice none 0 0) wk sl id [] [] :=
      ⟨⟨(A1.more x2).more x24, (xa.trans x1).trans (x2.trans x24), by omega, fun b hb => (ob_nil hb).elim⟩, w4.new, OW.nil h4, fun b hb => (ob_nil hb).elim, by have := x1.size; omega, fun b hb => (ob_nil hb).elim⟩
    clear A1 x1 x2 x3 y3 w4 x24 y1 ya xa
    conv => whnf
    refine cw_seq (cw_seq (cw_region rfl ?_))
    conv => whnf
    refine ⟨.bool true, fun w => by kernel_rfl, ?_⟩
    conv => whnf
    refine ⟨.bool false, fun w => by kernel_rfl, ?_⟩
    conv => whnf
    refine cw_false rfl (cw_skip ?_)
    refine cw_seq (cw_seq (cw_region rfl ?_))
    conv => whnf
    refine cw_false rfl (cw_skip ?_)
    generalize ha.size = p at B0
    generalize h2.size = rb at B0
    refine cw_seq (cw_region rfl ?_)
    conv => whnf
    refine ⟨_, rfl, _, clone_fn B0.N.at_ hwk (by simp), ?_⟩
    rintro _ h5 ⟨q, v', rfl, Aq, x5, hq, fv⟩
    conv => whnf
    refine ⟨_, rfl, #[pt p, pt q], fun w => by kernel_rfl, ?_⟩
    conv => whnf
    intro h6 n6
    conv => whnf
    refine ⟨_, _, n6.blk, ⟨by show 2 ≤ 2; decide, rfl, by simp [pt, Value.oneCell']⟩, ?_⟩
    intro h7 w7
    have y7 : Blk h7 h5.size [pt p, pt q] 66 := w7.new
    have z6 := n6.size
    have z7 := w7.size
    have x57 : ExtH h5 h7 := ⟨by omega, fun b hb => by rw [w7.block b (by omega), n6.block b hb]⟩
    have B7 := (B0.more x5).more x57
    have Aq7 := Aq.more x57
    have x47 := x5.trans x57
    clear n6 w7
    refine cw_seq (cw_region rfl ?_)
    conv => whnf
    refine ⟨_, rfl, B7.R.all, ?_⟩
    conv => whnf
    refine ⟨_, rfl, B7.R.all, ?_⟩
    conv => whnf
    refine ⟨_, rfl, (refC wk sl id (.slice none 0 0) ++ refC wk sl id (.slice none 0 0)).toArray, fun w => by kernel_rfl, ?_⟩
    conv => whnf
    intro h8 n8
    conv => whnf
    refine ⟨_, _, n8.blk, ⟨by show 8 ≤ 8; decide, rfl, by simp [refC, Value.oneCell']⟩, ?_⟩
    intro h9 w9
    have y9 : Blk h9 h7.size (refC wk sl id (.slice none 0 0) ++ refC wk sl id (.slice none 0 0)) 67 := w9.new
    have z8 := n8.size
    have z9 := w9.size
    have x79 : ExtH h7 h9 := ⟨by omega, fun b hb => by rw [w9.block b (by omega), n8.block b hb]⟩
    have B9 := B7.more x79
    have x07 := B7.N.ext.size
    have x04 := B0.N.ext.size
    have zq := x47.size
    have D9 : Duo h h9 h5.size h7.size wk sl id (fun k => if k = 0 then ⟨p, .slice none 0 0, .slice none 0 0, [], []⟩ else ⟨q, v', .slice none 0 0, [], []⟩) := by
      have Nq : PoolNew h h9 q v' wk sl id [] := ⟨Aq7.more x79, B9.N.ext, by omega, fun b hb => by have := fv b hb; omega⟩
      have pq : p ≠ q := fun e => by have := B0.N.at_.blk.lt; omega
      refine ⟨fun k hk => ?_, fun k hk => ?_, fun k hk => ?_, fun k hk => ?_, fun j hj k hk => ?_, fun j hj k hk => ?_, fun j hj k hk => ?_, x79.blk y7, y9, by have := x5.size; omega, by omega⟩
      · obtain rfl | rfl : k = 0 ∨ k = 1 := by omega
        · exact B9.N
        · exact Nq
      · obtain rfl | rfl : k = 0 ∨ k = 1 := by omega
        · exact Inv.nil hl
        · exact Inv.nil hl
      · obtain rfl | rfl : k = 0 ∨ k = 1 := by omega
        · exact OW.nil _
        · exact OW.nil _
      · obtain rfl | rfl : k = 0 ∨ k = 1 := by omega
        · exact fun b hb => (ob_nil hb).elim
        · exact fun b hb => (ob_nil hb).elim
      · obtain rfl | rfl : j = 0 ∨ j = 1 := by omega
        · exact fun b hb => (ob_nil hb).elim
        · exact fun b hb => (ob_nil hb).elim
      · rcases (show j = 0 ∨ j = 1 by omega) with rfl | rfl <;> rcases (show k = 0 ∨ k = 1 by omega) with rfl | rfl
        · exact fun e => absurd rfl e
        · exact fun _ => pq
        · exact fun _ => pq.symm
        · exact fun e => absurd rfl e
      · rcases (show j = 0 ∨ j = 1 by omega) with rfl | rfl <;> rcases (show k = 0 ∨ k = 1 by omega) with rfl | rfl
        · exact fun e => absurd rfl e
        · exact fun _ b hb => (ob_nil hb).elim
        · exact fun _ b _ hb => (ob_nil hb).elim
        · exact fun e => absurd rfl e
    have R9 := B9.R
    refine cw_seq (cw_region rfl ?_)
    refine cw_seq (cw_seq (cw_region rfl ?_))
    conv => whnf
    refine ⟨⟨by decide, by decide⟩, ?_⟩
    conv => whnf
    refine ⟨_, D9.r9 (n := 1) (by decide), ?_⟩
    conv => whnf
    refine ⟨.bool false, fun w => by kernel_rfl, ?_⟩
    conv => whnf
    refine ⟨⟨by decide, by decide⟩, ?_⟩
    conv => whnf
    refine ⟨_, D9.r9 (n := 0) (by decide), ?_⟩
    conv => whnf
    refine ⟨_, rfl, R9.all, ?_⟩
    conv => whnf
    refine ⟨_, rfl, _, is2_fn B9.N.at_ B9.O (Inv.nil hl) (by simp), ?_⟩
    rintro _ h10 ⟨rfl, x10⟩
    conv => whnf
    refine cw_false rfl (cw_skip ?_)
    have D10 := D9.more x10
    clear D9 B9 R9 y9 y7 B7 B0 Aq Aq7 n8 w9 x57 x79 x47 x5
    refine cw_seq (cw_seq (cw_region rfl ?_))
    refine cw_block ?_
    generalize h5.size = a9 at D10
    generalize h7.size = a10 at D10
    refine cw_loop (S := Nat × Nat) (fun s => [(1, .slice oa os.length oc), (9, .pointer (some ⟨a9, 0, none⟩)), (10, .pointer (some ⟨a10, 0, none⟩)), (11, .int .i64 (s.2 : Int)), (12, .int .i64 (s.1 : Int))])
      (fun s h' => s.1 ≤ os.length ∧ s.2 < 2 ∧ ∃ d, Duo h h' a9 a10 wk sl id d ∧ ∀ k, k < 2 → (d k).rs = (d k).ws ∧ (d k).ws.length ≤ s.1) (fun s => os.length - s.1) (0, 0) ⟨rfl, rfl, rfl, rfl, rfl, trivial⟩
      ⟨by show 0 ≤ _; omega, by show 0 < 2; decide, _, D10, fun k hk => by
        obtain rfl | rfl : k = 0 ∨ k = 1 := by omega
        · exact ⟨rfl, Nat.le_refl _⟩
        · exact ⟨rfl, Nat.le_refl _⟩⟩ ?_
    clear D10
    rintro ⟨t, n⟩ h5 ⟨ht, hn, d, D5, hd⟩
    simp only at ht hn hd
    have hsm := r.small
    refine cw_seq (cw_seq (cw_region rfl ?_))
    conv => whnf
    by_cases hlt : t < os.length
    · refine cw_yes rfl (by show (t : Int) < _; omega) (cw_skip ?_)
      have hx : os[t]? = some os[t] := List.getElem?_eq_getElem hlt
      generalize os[t] = xk at hx
      have hxm := List.mem_of_getElem? hx
      have rks := r.ks xk hxm
      have rkl := r.kss xk hxm
      obtain ⟨x, kv⟩ := xk
      simp only at rks rkl
      obtain ⟨ka, kc, hke, hkm⟩ := rks.fix
      subst hke
      obtain ⟨b, o, rfl, _⟩ := r.get t _ hx
      have hr' : ∀ {h' : Heap}, ExtH h h' → rdN h' b (o + ((t : Int)).toNat * 5) (opC x (.slice ka x.ks.length kc)) := fun e => by
        obtain ⟨b', o', hbo, hr'⟩ := (r.more e).get t _ hx
        injection hbo with hbo
        injection hbo with hb1 hb2
        subst hb1 hb2
        rwa [show o + t * 5 = o + ((t : Int)).toNat * 5 by omega] at hr'
      have E5 := (D5.N 0 (by decide)).ext
      refine cw_seq (cw_block (cw_seq (cw_mono (Q := fun e fr h' => e = .normal ∧ ∃ (m : Nat) (d' : Nat → Sd), Sub [(1, .slice (some ⟨b, o, none⟩) os.length oc), (9, .pointer (some ⟨a9, 0, none⟩)), (10, .pointer (some ⟨a10, 0, none⟩)), (11, .int .i64 (m : Int)), (12, .int .i64 (t : Int))] fr ∧
          m < 2 ∧ Duo h h' a9 a10 wk sl id d' ∧ ∀ k, k < 2 → (d' k).rs = (d' k).ws ∧ (d' k).ws.length ≤ t + 1) ?_ ?_)))
      · refine cw_seq (cw_region rfl ?_)
        conv => whnf
        refine ⟨⟨by omega, by omega⟩, ?_⟩
        conv => whnf
        refine ⟨_, hr' E5 0 _ rfl, ?_⟩
        refine cw_block (cw_seq (cw_region rfl ?_))
        by_cases h11 : x.d = 11
        · refine cw_beq_yes rfl h11 ?_
          obtain rfl | rfl : n = 0 ∨ n = 1 := by omega
          · refine cw_seq (cw_region rfl ?_)
            conv => whnf
            refine ⟨(by decide : (0 : Int) ≤ (((0 : Nat)) : Int) ∧ (((0 : Nat)) : Int) < ((2 : Nat) : Int)), ?_⟩
            conv => whnf
            refine ⟨_, D5.r9 (n := 0) (by decide), ?_⟩
            conv => whnf
            refine ⟨_, rfl, _, clone_fn (D5.N 0 (by decide)).at_ hwk (by have := (hd 0 (by decide)).2; omega), ?_⟩
            rintro _ h6 ⟨q, v', rfl, Aq, x6, hq, fv⟩
            have D6 := D5.more x6
            conv => whnf
            refine ⟨(by decide : (0 : Int) ≤ IntKind.i64.wrap (1 - (((0 : Nat)) : Int)) ∧ IntKind.i64.wrap (1 - (((0 : Nat)) : Int)) < ((2 : Nat) : Int)), ?_⟩
            conv => whnf
            refine ⟨_, _, D6.A9, by show 1 < 2; decide, ?_⟩
            intro h7 w7
            have s0 := E5.size
            have D7 := D6.pool (m := 1) (by decide) w7 (v' := v') (ws' := (d 0).ws) ⟨Aq, (D6.N 0 (by decide)).ext, by omega, fun b hb => by have := fv b hb; omega⟩ (D6.I 0 (by decide))
              (fun k hk e => by have := (D5.N k hk).at_.blk.lt; omega) (fun k hk b hb => ⟨fun e => by have := OwnS.lt (D5.N k hk).at_.own e; have := fv b hb; omega, fun e => by have := OwnS.lt (D5.O k hk) e; have := fv b hb; omega⟩)
            conv => whnf
            refine cw_region rfl ?_
            conv => whnf
            refine ⟨(by decide : (0 : Int) ≤ (((0 : Nat)) : Int) ∧ (((0 : Nat)) : Int) < ((2 : Nat) : Int)), ?_⟩
            conv => whnf
            refine ⟨_, rfl, D7.r10 (n := 0) (by decide), ?_⟩
            conv => whnf
            refine ⟨(by decide : (0 : Int) ≤ IntKind.i64.wrap (1 - (((0 : Nat)) : Int)) ∧ IntKind.i64.wrap (1 - (((0 : Nat)) : Int)) < ((2 : Nat) : Int)), ?_⟩
            conv => whnf
            refine store_duo D7 (m := 1) (by decide) rfl (D7.O 0 (by decide)) (D7.w0 0 (by decide)) (D7.wv 0 (by decide)) ?_
            intro h8 D8 _
            refine ⟨rfl, 0, _, ⟨rfl, rfl, rfl, rfl, rfl, trivial⟩, by decide, D8, fun k hk => ?_⟩
            obtain rfl | rfl : k = 0 ∨ k = 1 := by omega
            · exact ⟨(hd 0 (by decide)).1, by have := (hd 0 (by decide)).2; show (d 0).ws.length ≤ _; omega⟩
            · exact ⟨(hd 0 (by decide)).1, by have := (hd 0 (by decide)).2; show (d 0).ws.length ≤ _; omega⟩
          · refine cw_seq (cw_region rfl ?_)
            conv => whnf
            refine ⟨(by decide : (0 : Int) ≤ (((1 : Nat)) : Int) ∧ (((1 : Nat)) : Int) < ((2 : Nat) : Int)), ?_⟩
            conv => whnf
            refine ⟨_, D5.r9 (n := 1) (by decide), ?_⟩
            conv => whnf
            refine ⟨_, rfl, _, clone_fn (D5.N 1 (by decide)).at_ hwk (by have := (hd 1 (by decide)).2; omega), ?_⟩
            rintro _ h6 ⟨q, v', rfl, Aq, x6, hq, fv⟩
            have D6 := D5.more x6
            conv => whnf
            refine ⟨(by decide : (0 : Int) ≤ IntKind.i64.wrap (1 - (((1 : Nat)) : Int)) ∧ IntKind.i64.wrap (1 - (((1 : Nat)) : Int)) < ((2 : Nat) : Int)), ?_⟩
            conv => whnf
            refine ⟨_, _, D6.A9, by show 0 < 2; decide, ?_⟩
            intro h7 w7
            have s0 := E5.size
            have D7 := D6.pool (m := 0) (by decide) w7 (v' := v') (ws' := (d 1).ws) ⟨Aq, (D6.N 0 (by decide)).ext, by omega, fun b hb => by have := fv b hb; omega⟩ (D6.I 1 (by decide))
              (fun k hk e => by have := (D5.N k hk).at_.blk.lt; omega) (fun k hk b hb => ⟨fun e => by have := OwnS.lt (D5.N k hk).at_.own e; have := fv b hb; omega, fun e => by have := OwnS.lt (D5.O k hk) e; have := fv b hb; omega⟩)
            conv => whnf
            refine cw_region rfl ?_
            conv => whnf
            refine ⟨(by decide : (0 : Int) ≤ (((1 : Nat)) : Int) ∧ (((1 : Nat)) : Int) < ((2 : Nat) : Int)), ?_⟩
            conv => whnf
            refine ⟨_, rfl, D7.r10 (n := 1) (by decide), ?_⟩
            conv => whnf
            refine ⟨(by decide : (0 : Int) ≤ IntKind.i64.wrap (1 - (((1 : Nat)) : Int)) ∧ IntKind.i64.wrap (1 - (((1 : Nat)) : Int)) < ((2 : Nat) : Int)), ?_⟩
            conv => whnf
            refine store_duo D7 (m := 0) (by decide) rfl (D7.O 1 (by decide)) (D7.w0 1 (by decide)) (D7.wv 1 (by decide)) ?_
            intro h8 D8 _
            refine ⟨rfl, 1, _, ⟨rfl, rfl, rfl, rfl, rfl, trivial⟩, by decide, D8, fun k hk => ?_⟩
            obtain rfl | rfl : k = 0 ∨ k = 1 := by omega
            · exact ⟨(hd 1 (by decide)).1, by have := (hd 1 (by decide)).2; show (d 1).ws.length ≤ _; omega⟩
            · exact ⟨(hd 1 (by decide)).1, by have := (hd 1 (by decide)).2; show (d 1).ws.length ≤ _; omega⟩
        · refine cw_beq_no rfl h11 ?_
          refine cw_seq (cw_region rfl ?_)
          by_cases h12 : x.d = 12
          · refine cw_beq_yes rfl h12 ?_
            refine cw_region rfl ?_
            conv => whnf
            refine ⟨rfl, 1 - n, d, ⟨rfl, rfl, rfl, slot_i64 _ _ (by omega) (by omega), rfl, trivial⟩, by omega, D5, fun k hk => ⟨(hd k hk).1, by have := (hd k hk).2; omega⟩⟩
          · refine cw_beq_no rfl h12 ?_
            have I5 := D5.I n hn
            have hlen5 := (hd n hn).2
            have hrs5 := (hd n hn).1
            have hlen9 := (asks_length wk sl id (d n).ws x).1
            have hkW : (askS wk sl id (d n).ws x).2.w.key.length = 32 := askS_key (D5.N n hn).at_.keys x
            have p5 := (D5.N n hn).p
            have v5 := (D5.N n hn).v
            have k9 : a9 < h5.size ∧ a9 ≠ (d n).p ∧ ¬ ob (d n).v a9 := ⟨D5.A9.lt, blk_apart D5.A9 (D5.N n hn).at_.blk (by decide), OwnS.ne (D5.N n hn).at_.own D5.A9 (by decide)⟩
            refine cw_seq (cw_mono (Q := fun e fr h' => e = .normal ∧ ∃ (b13 : Nat) (v' lv : Value), Sub [(1, .slice (some ⟨b, o, none⟩) os.length oc), (9, .pointer (some ⟨a9, 0, none⟩)), (10, .pointer (some ⟨a10, 0, none⟩)), (11, .int .i64 (n : Int)), (12, .int .i64 (t : Int)), (13, pt b13)] fr ∧ h.size ≤ b13 ∧
              Duo h h' a9 a10 wk sl id (upd d n { d n with v := v', ws := (askS wk sl id (d n).ws x).1 }) ∧ Blk h' b13 (toldC (askS wk sl id (d n).ws x).2.n (askS wk sl id (d n).ws x).2.s lv (askS wk sl id (d n).ws x).2.w (askS wk sl id (d n).ws x).2.e) 37 ∧ OI h' lv (askS wk sl id (d n).ws x).2.l) ?_ ?_)
            · refine cw_keeps (by kernel_rfl) 9 (fun b => b < h5.size ∧ b ≠ (d n).p ∧ ¬ ob (d n).v b) (.q 0 (.q 1 (.q 2 (.q 3 (.q 4 (.q 5 (.q 6 (.i2 7 (.i1 8 .leaf) 8 (.i1 7 .leaf))))))))) (by kernel_rfl) rfl ?_
              conv => whnf
              refine ⟨.int .i64 (n : Int), fun h' e => rfl, ?_⟩
              conv => whnf
              refine ⟨.pointer (some ⟨a9, 0 + ((n : Int)).toNat, none⟩), fun h' e => ⟨⟨by omega, by omega⟩, rfl⟩, ?_⟩
              conv => whnf
              refine ⟨pt (d n).p, fun h' e => ⟨_, by rw [show 0 + ((n : Int)).toNat = n by omega]; exact rd9 (ExtP.blk' e D5.A9 k9) hn, by rcases (show n = 0 ∨ n = 1 by omega) with rfl | rfl <;> rfl⟩, ?_⟩
              conv => whnf
              refine ⟨_, fun h' e => rfl, ?_⟩
              conv => whnf
              refine ⟨_, fun h' e => rfl, ?_⟩
              conv => whnf
              refine ⟨.pointer (some ⟨b, o + ((t : Int)).toNat * 5, none⟩), fun h' e => ⟨⟨by omega, by omega⟩, rfl⟩, ?_⟩
              conv => whnf
              have hin : ∀ {h' : Heap}, ExtP (fun b => b < h5.size ∧ b ≠ (d n).p ∧ ¬ ob (d n).v b) h5 h' → ExtH h h' := fun e =>
                ⟨by have := e.size; have := E5.size; omega, fun c hc => by have := E5.size; rw [e.block c ⟨by omega, by omega, fun hb => by have := v5 c hb; omega⟩ (by omega), E5.block c hc]⟩
              refine ⟨.agg (opC x (.slice ka x.ks.length kc)).toArray, fun h' e => ⟨opC x (.slice ka x.ks.length kc), rfl, hr' (hin e), rfl⟩, ?_⟩
              conv => whnf
              refine ⟨?_, ?_⟩
              · intro g1 u1
                have G1 := D5.more u1
                conv => whnf
                refine ⟨_, rfl, _, asks_fn x (G1.N n hn).at_ I5 (by omega) (rks.more (E5.trans u1)) (by omega), ?_⟩
                rintro _ e1 ⟨v', lv, rfl, A1, t1, l1, f1⟩
                have D1 := G1.turn hn A1 t1 (I5.asks x)
                refine ⟨⟨t1.1.size, fun c hc hlt => t1.1.block c hlt (fun e => e.elim hc.2.1 hc.2.2)⟩, ?_⟩
                intro g2 u2
                conv => whnf
                intro g3 u3
                conv => whnf
                intro e4 n4
                have y4 : Blk e4 g3.size (toldC 0 false (.slice none 0 0) zeroW 0) 37 := n4.blk
                refine ⟨n4.ext.toP _, ?_⟩
                intro g5 u5
                conv => whnf
                intro g6 u6
                conv => whnf
                have x16 := ((u2.trans u3).trans n4.ext).trans (u5.trans u6)
                have z3 := u3.size
                have z2 := u2.size
                have z1 := t1.1.size
                have z0 := u1.size
                have s0 := E5.size
                refine store_told (u6.blk (u5.blk y4)) hkW (l1.more x16) ?_
                intro g7 w7
                exact ⟨rfl, g3.size, v', lv, ⟨rfl, rfl, rfl, rfl, rfl, rfl, trivial⟩, by omega, (D1.more x16).wrote (u6.blk (u5.blk y4)) w7 (by omega) (by decide) (by decide) (by decide) (by decide), w7.new,
                  OI.keep (l1.more x16) w7.chg (fun c hc e => by subst e; exact OwnS.ne (l1.more x16) (u6.blk (u5.blk y4)) (by decide) hc)⟩
              · intro g1 u1
                conv => whnf
                intro e1 n1
                have y1 : Blk e1 g1.size (toldC 0 false (.slice none 0 0) zeroW 0) 37 := n1.blk
                refine ⟨n1.ext.toP _, ?_⟩
                intro g2 u2
                conv => whnf
                intro g3 u3
                have x13 := n1.ext.trans (u2.trans u3)
                have y3 := u3.blk (u2.blk y1)
                have G3 := D5.more (u1.trans x13)
                have z0 := u1.size
                have s0 := E5.size
                conv => whnf
                refine ⟨_, rfl, _, asks_fn x (G3.N n hn).at_ I5 (by omega) (rks.more (E5.trans (u1.trans x13))) (by omega), ?_⟩
                rintro _ e4 ⟨v', lv, rfl, A1, t1, l1, f1⟩
                have D4 := G3.turn hn A1 t1 (I5.asks x)
                have y4 := t1.1.blk y3 (fun e => e.elim (blk_apart y3 (G3.N n hn).at_.blk (by decide)) (OwnS.ne (G3.N n hn).at_.own y3 (by decide)))
                refine ⟨⟨t1.1.size, fun c hc hlt => t1.1.block c hlt (fun e => e.elim hc.2.1 hc.2.2)⟩, ?_⟩
                intro g5 u5
                conv => whnf
                intro g6 u6
                conv => whnf
                have x46 := u5.trans u6
                refine store_told (x46.blk y4) hkW (l1.more x46) ?_
                intro g7 w7
                exact ⟨rfl, g1.size, v', lv, ⟨rfl, rfl, rfl, rfl, rfl, rfl, trivial⟩, by omega, (D4.more x46).wrote (x46.blk y4) w7 (by omega) (by decide) (by decide) (by decide) (by decide), w7.new,
                  OI.keep (l1.more x46) w7.chg (fun c hc e => by subst e; exact OwnS.ne (l1.more x46) (x46.blk y4) (by decide) hc)⟩
            · rintro e fr H0 ⟨rfl, b13, v', lv, hsub, hz13, D0, yt0, l0⟩
              refine cw_keep _ hsub ?_
              have e1 : (upd d n { d n with v := v', ws := (askS wk sl id (d n).ws x).1 } n).wv = (d n).wv := by rw [upd_same]
              have e2 : (upd d n { d n with v := v', ws := (askS wk sl id (d n).ws x).1 } n).rs = (d n).ws := by rw [upd_same]; exact hrs5
              have O0 := D0.O n hn
              rw [e1, e2] at O0
              have R0 := D0.r10 hn
              rw [e1] at R0
              have E0 := (D0.N n hn).ext
              refine cw_seq (cw_mono (Q := fun e fr h' => e = .normal ∧ ∃ b14 b15 wv' mv, Sub [(1, .slice (some ⟨b, o, none⟩) os.length oc), (9, .pointer (some ⟨a9, 0, none⟩)), (10, .pointer (some ⟨a10, 0, none⟩)), (11, .int .i64 (n : Int)), (12, .int .i64 (t : Int)), (13, pt b13), (14, .pointer (some ⟨b14, 0, none⟩)), (15, .pointer (some ⟨b15, 0, none⟩))] fr ∧
                  ExtH H0 h' ∧ Blk h' b14 (refC wk sl id wv') 53 ∧ Blk h' b15 (toldC (askS wk sl id (d n).ws x).2.n (askS wk sl id (d n).ws x).2.s mv (askS wk sl id (d n).ws x).2.w (askS wk sl id (d n).ws x).2.e) 37 ∧ OW h' wv' (askS wk sl id (d n).ws x).1 ∧ OI h' mv (askS wk sl id (d n).ws x).2.l ∧
                  (∀ b, ob wv' b → ob (d n).wv b ∨ H0.size ≤ b)) ?_ ?_)
              · refine cw_keeps (by kernel_rfl) 14 (fun b => b < H0.size) (.q 0 (.q 1 (.q 2 (.q 3 (.q 4 (.q 5 (.q 6 (.i3 7 (.q 8 (.q 9 (.q 10 (.i2 11 (.i1 12 (.i1 13 .leaf)) 12 (.i1 11 (.i1 13 .leaf)))))) 11 (.i2 7 (.q 8 (.q 9 (.q 10 (.i1 12 (.i1 13 .leaf))))) 12 (.i1 7 (.q 8 (.q 9 (.q 10 (.i1 13 .leaf)))))) 12 (.i2 7 (.q 8 (.q 9 (.q 10 (.i1 11 (.i1 13 .leaf))))) 11 (.i1 7 (.q 8 (.q 9 (.q 10 (.i1 13 .leaf)))))))))))))) (by kernel_rfl) rfl ?_
                conv => whnf
                refine ⟨_, fun h' e => rfl, ?_⟩
                conv => whnf
                refine ⟨.pointer (some ⟨a10, 0 + ((n : Int)).toNat * 4, none⟩), fun h' e => ⟨⟨by omega, by omega⟩, rfl⟩, ?_⟩
                conv => whnf
                refine ⟨.agg (refC wk sl id (d n).wv).toArray, fun h' e => ⟨refC wk sl id (d n).wv, rfl, by rw [show 0 + ((n : Int)).toNat * 4 = n * 4 by omega]; exact ExtP.rdN' e R0 D0.A10.lt, rfl⟩, ?_⟩
                conv => whnf
                refine ⟨_, fun h' e => rfl, ?_⟩
                conv => whnf
                refine ⟨_, fun h' e => rfl, ?_⟩
                conv => whnf
                refine ⟨.pointer (some ⟨b, o + ((t : Int)).toNat * 5, none⟩), fun h' e => ⟨⟨by omega, by omega⟩, rfl⟩, ?_⟩
                conv => whnf
                refine ⟨.agg (opC x (.slice ka x.ks.length kc)).toArray, fun h' e => ⟨opC x (.slice ka x.ks.length kc), rfl, hr' (E0.trans ⟨e.size, fun b hb => e.block b hb hb⟩), rfl⟩, ?_⟩
                have xH := ExtH.refl H0
                conv => whnf
                refine ⟨?_, ?_, ?_⟩
                · intro g1 u1
                  have v1 := xH.trans u1
                  conv => whnf
                  refine ⟨_, rfl, _, right_fn x (O0.more v1) (D5.N n hn).at_.keys I5 (by omega) ((rks.more E0).more v1) (by omega), ?_⟩
                  rintro _ e1 ⟨wv', mv, rfl, oR, lR, q1, fR, gR⟩
                  have fR' : ∀ b, ob wv' b → ob (d n).wv b ∨ H0.size ≤ b := fun b hb => (fR b hb).imp (fun e => e) (fun e => by have := (v1).size; omega)
                  obtain ⟨aR, cR, eR, _⟩ := OW.fix oR
                  subst eR
                  have hkR := hkW
                  refine ⟨q1.toP _, ?_⟩
                  have p1 := v1.trans q1
                  intro g2 u2
                  have v2 := p1.trans u2
                  replace oR := OW.more oR u2
                  replace lR := OI.more lR u2
                  conv => whnf
                  refine ⟨_, fun h' e => rfl, ?_⟩
                  conv => whnf
                  refine ⟨_, fun h' e => rfl, ?_⟩
                  conv => whnf
                  refine ⟨_, fun h' e => rfl, ?_⟩
                  conv => whnf
                  refine ⟨?_, ?_⟩
                  · intro g3 u3
                    have v3 := v2.trans u3
                    replace oR := OW.more oR u3
                    replace lR := OI.more lR u3
                    conv => whnf
                    intro e3 n3
                    conv => whnf
                    have y13 : Blk e3 g3.size (refC 0 0 0 (.slice none 0 0)) 53 := n3.blk
                    have b13 : H0.size ≤ g3.size := v3.size
                    have q3 := n3.ext
                    have p3 := v3.trans q3
                    clear n3
                    replace oR := OW.more oR q3
                    replace lR := OI.more lR q3
                    refine ⟨q3.toP _, ?_⟩
                    intro g4 u4
                    have v4 := p3.trans u4
                    replace oR := OW.more oR u4
                    replace lR := OI.more lR u4
                    replace y13 := u4.blk y13
                    conv => whnf
                    intro g5 u5
                    have v5 := v4.trans u5
                    replace oR := OW.more oR u5
                    replace lR := OI.more lR u5
                    replace y13 := u5.blk y13
                    conv => whnf
                    intro e5 n5
                    conv => whnf
                    have y14 : Blk e5 g5.size (toldC 0 false (.slice none 0 0) zeroW 0) 37 := n5.blk
                    have b14 : H0.size ≤ g5.size := v5.size
                    have q5 := n5.ext
                    have p5 := v5.trans q5
                    clear n5
                    replace oR := OW.more oR q5
                    replace lR := OI.more lR q5
                    replace y13 := q5.blk y13
                    refine ⟨q5.toP _, ?_⟩
                    intro g6 u6
                    have v6 := p5.trans u6
                    replace oR := OW.more oR u6
                    replace lR := OI.more lR u6
                    replace y13 := u6.blk y13
                    replace y14 := u6.blk y14
                    conv => whnf
                    intro g7 u7
                    have v7 := v6.trans u7
                    replace oR := OW.more oR u7
                    replace lR := OI.more lR u7
                    replace y13 := u7.blk y13
                    replace y14 := u7.blk y14
                    conv => whnf
                    refine store_ref y13 ?_
                    intro e7 w7
                    have p7 : ExtH H0 e7 := ⟨by have := w7.size; have := v7.size; omega, fun b hb => by rw [w7.block b (by omega), v7.block b hb]⟩
                    replace oR := OwnS.keep oR w7.chg (fun b hb e => by subst e; exact OwnS.ne oR y13 (by decide) hb)
                    replace lR := OI.keep lR w7.chg (fun b hb e => by subst e; exact OwnS.ne lR y13 (by decide) hb)
                    replace y14 := w7.blk y14 (blk_apart y14 y13 (by decide))
                    replace y13 := w7.new
                    refine ⟨⟨by have := w7.size; omega, fun b hb hlt => w7.block b (by have : b < H0.size := hb; omega)⟩, ?_⟩
                    intro g8 u8
                    have v8 := p7.trans u8
                    replace oR := OW.more oR u8
                    replace lR := OI.more lR u8
                    replace y13 := u8.blk y13
                    replace y14 := u8.blk y14
                    conv => whnf
                    intro g9 u9
                    have v9 := v8.trans u9
                    replace oR := OW.more oR u9
                    replace lR := OI.more lR u9
                    replace y13 := u9.blk y13
                    replace y14 := u9.blk y14
                    conv => whnf
                    refine store_told y14 hkR lR ?_
                    intro e9 w9
                    have p9 : ExtH H0 e9 := ⟨by have := w9.size; have := v9.size; omega, fun b hb => by rw [w9.block b (by omega), v9.block b hb]⟩
                    replace oR := OwnS.keep oR w9.chg (fun b hb e => by subst e; exact OwnS.ne oR y14 (by decide) hb)
                    replace lR := OI.keep lR w9.chg (fun b hb e => by subst e; exact OwnS.ne lR y14 (by decide) hb)
                    replace y13 := w9.blk y13 (blk_apart y13 y14 (by decide))
                    replace y14 := w9.new
                    exact ⟨rfl, _, _, _, _, ⟨rfl, rfl, rfl, rfl, rfl, rfl, rfl, rfl, trivial⟩, p9, y13, y14, oR, lR, fR'⟩
                  · intro g10 u10
                    have v10 := v2.trans u10
                    replace oR := OW.more oR u10
                    replace lR := OI.more lR u10
                    conv => whnf
                    intro e10 n10
                    conv => whnf
                    have y14 : Blk e10 g10.size (toldC 0 false (.slice none 0 0) zeroW 0) 37 := n10.blk
                    have b14 : H0.size ≤ g10.size := v10.size
                    have q10 := n10.ext
                    have p10 := v10.trans q10
                    clear n10
                    replace oR := OW.more oR q10
                    replace lR := OI.more lR q10
                    refine ⟨q10.toP _, ?_⟩
                    intro g11 u11
                    have v11 := p10.trans u11
                    replace oR := OW.more oR u11
                    replace lR := OI.more lR u11
                    replace y14 := u11.blk y14
                    conv => whnf
                    intro g12 u12
                    have v12 := v11.trans u12
                    replace oR := OW.more oR u12
                    replace lR := OI.more lR u12
                    replace y14 := u12.blk y14
                    conv => whnf
                    intro e12 n12
                    conv => whnf
                    have y13 : Blk e12 g12.size (refC 0 0 0 (.slice none 0 0)) 53 := n12.blk
                    have b13 : H0.size ≤ g12.size := v12.size
                    have q12 := n12.ext
                    have p12 := v12.trans q12
                    clear n12
                    replace oR := OW.more oR q12
                    replace lR := OI.more lR q12
                    replace y14 := q12.blk y14
                    refine ⟨q12.toP _, ?_⟩
                    intro g13 u13
                    have v13 := p12.trans u13
                    replace oR := OW.more oR u13
                    replace lR := OI.more lR u13
                    replace y13 := u13.blk y13
                    replace y14 := u13.blk y14
                    conv => whnf
                    intro g14 u14
                    have v14 := v13.trans u14
                    replace oR := OW.more oR u14
                    replace lR := OI.more lR u14
                    replace y13 := u14.blk y13
                    replace y14 := u14.blk y14
                    conv => whnf
                    refine store_ref y13 ?_
                    intro e14 w14
                    have p14 : ExtH H0 e14 := ⟨by have := w14.size; have := v14.size; omega, fun b hb => by rw [w14.block b (by omega), v14.block b hb]⟩
                    replace oR := OwnS.keep oR w14.chg (fun b hb e => by subst e; exact OwnS.ne oR y13 (by decide) hb)
                    replace lR := OI.keep lR w14.chg (fun b hb e => by subst e; exact OwnS.ne lR y13 (by decide) hb)
                    replace y14 := w14.blk y14 (blk_apart y14 y13 (by decide))
                    replace y13 := w14.new
                    refine ⟨⟨by have := w14.size; omega, fun b hb hlt => w14.block b (by have : b < H0.size := hb; omega)⟩, ?_⟩
                    intro g15 u15
                    have v15 := p14.trans u15
                    replace oR := OW.more oR u15
                    replace lR := OI.more lR u15
                    replace y13 := u15.blk y13
                    replace y14 := u15.blk y14
                    conv => whnf
                    intro g16 u16
                    have v16 := v15.trans u16
                    replace oR := OW.more oR u16
                    replace lR := OI.more lR u16
                    replace y13 := u16.blk y13
                    replace y14 := u16.blk y14
                    conv => whnf
                    refine store_told y14 hkR lR ?_
                    intro e16 w16
                    have p16 : ExtH H0 e16 := ⟨by have := w16.size; have := v16.size; omega, fun b hb => by rw [w16.block b (by omega), v16.block b hb]⟩
                    replace oR := OwnS.keep oR w16.chg (fun b hb e => by subst e; exact OwnS.ne oR y14 (by decide) hb)
                    replace lR := OI.keep lR w16.chg (fun b hb e => by subst e; exact OwnS.ne lR y14 (by decide) hb)
                    replace y13 := w16.blk y13 (blk_apart y13 y14 (by decide))
                    replace y14 := w16.new
                    exact ⟨rfl, _, _, _, _, ⟨rfl, rfl, rfl, rfl, rfl, rfl, rfl, rfl, trivial⟩, p16, y13, y14, oR, lR, fR'⟩
                · intro g17 u17
                  have v17 := xH.trans u17
                  conv => whnf
                  intro e17 n17
                  conv => whnf
                  have y13 : Blk e17 g17.size (refC 0 0 0 (.slice none 0 0)) 53 := n17.blk
                  have b13 : H0.size ≤ g17.size := v17.size
                  have q17 := n17.ext
                  have p17 := v17.trans q17
                  clear n17
                  refine ⟨q17.toP _, ?_⟩
                  intro g18 u18
                  have v18 := p17.trans u18
                  replace y13 := u18.blk y13
                  conv => whnf
                  refine ⟨?_, ?_⟩
                  · intro g19 u19
                    have v19 := v18.trans u19
                    replace y13 := u19.blk y13
                    conv => whnf
                    refine ⟨_, rfl, _, right_fn x (O0.more v19) (D5.N n hn).at_.keys I5 (by omega) ((rks.more E0).more v19) (by omega), ?_⟩
                    rintro _ e19 ⟨wv', mv, rfl, oR, lR, q19, fR, gR⟩
                    have fR' : ∀ b, ob wv' b → ob (d n).wv b ∨ H0.size ≤ b := fun b hb => (fR b hb).imp (fun e => e) (fun e => by have := (v19).size; omega)
                    obtain ⟨aR, cR, eR, _⟩ := OW.fix oR
                    subst eR
                    have hkR := hkW
                    refine ⟨q19.toP _, ?_⟩
                    have p19 := v19.trans q19
                    replace y13 := q19.blk y13
                    intro g20 u20
                    have v20 := p19.trans u20
                    replace oR := OW.more oR u20
                    replace lR := OI.more lR u20
                    replace y13 := u20.blk y13
                    conv => whnf
                    refine ⟨_, fun h' e => rfl, ?_⟩
                    conv => whnf
                    refine ⟨_, fun h' e => rfl, ?_⟩
                    conv => whnf
                    refine ⟨_, fun h' e => rfl, ?_⟩
                    conv => whnf
                    intro g21 u21
                    have v21 := v20.trans u21
                    replace oR := OW.more oR u21
                    replace lR := OI.more lR u21
                    replace y13 := u21.blk y13
                    conv => whnf
                    intro e21 n21
                    conv => whnf
                    have y14 : Blk e21 g21.size (toldC 0 false (.slice none 0 0) zeroW 0) 37 := n21.blk
                    have b14 : H0.size ≤ g21.size := v21.size
                    have q21 := n21.ext
                    have p21 := v21.trans q21
                    clear n21
                    replace oR := OW.more oR q21
                    replace lR := OI.more lR q21
                    replace y13 := q21.blk y13
                    refine ⟨q21.toP _, ?_⟩
                    intro g22 u22
                    have v22 := p21.trans u22
                    replace oR := OW.more oR u22
                    replace lR := OI.more lR u22
                    replace y13 := u22.blk y13
                    replace y14 := u22.blk y14
                    conv => whnf
                    intro g23 u23
                    have v23 := v22.trans u23
                    replace oR := OW.more oR u23
                    replace lR := OI.more lR u23
                    replace y13 := u23.blk y13
                    replace y14 := u23.blk y14
                    conv => whnf
                    refine store_ref y13 ?_
                    intro e23 w23
                    have p23 : ExtH H0 e23 := ⟨by have := w23.size; have := v23.size; omega, fun b hb => by rw [w23.block b (by omega), v23.block b hb]⟩
                    replace oR := OwnS.keep oR w23.chg (fun b hb e => by subst e; exact OwnS.ne oR y13 (by decide) hb)
                    replace lR := OI.keep lR w23.chg (fun b hb e => by subst e; exact OwnS.ne lR y13 (by decide) hb)
                    replace y14 := w23.blk y14 (blk_apart y14 y13 (by decide))
                    replace y13 := w23.new
                    refine ⟨⟨by have := w23.size; omega, fun b hb hlt => w23.block b (by have : b < H0.size := hb; omega)⟩, ?_⟩
                    intro g24 u24
                    have v24 := p23.trans u24
                    replace oR := OW.more oR u24
                    replace lR := OI.more lR u24
                    replace y13 := u24.blk y13
                    replace y14 := u24.blk y14
                    conv => whnf
                    intro g25 u25
                    have v25 := v24.trans u25
                    replace oR := OW.more oR u25
                    replace lR := OI.more lR u25
                    replace y13 := u25.blk y13
                    replace y14 := u25.blk y14
                    conv => whnf
                    refine store_told y14 hkR lR ?_
                    intro e25 w25
                    have p25 : ExtH H0 e25 := ⟨by have := w25.size; have := v25.size; omega, fun b hb => by rw [w25.block b (by omega), v25.block b hb]⟩
                    replace oR := OwnS.keep oR w25.chg (fun b hb e => by subst e; exact OwnS.ne oR y14 (by decide) hb)
                    replace lR := OI.keep lR w25.chg (fun b hb e => by subst e; exact OwnS.ne lR y14 (by decide) hb)
                    replace y13 := w25.blk y13 (blk_apart y13 y14 (by decide))
                    replace y14 := w25.new
                    exact ⟨rfl, _, _, _, _, ⟨rfl, rfl, rfl, rfl, rfl, rfl, rfl, rfl, trivial⟩, p25, y13, y14, oR, lR, fR'⟩
                  · intro g26 u26
                    have v26 := v18.trans u26
                    replace y13 := u26.blk y13
                    conv => whnf
                    intro e26 n26
                    conv => whnf
                    have y14 : Blk e26 g26.size (toldC 0 false (.slice none 0 0) zeroW 0) 37 := n26.blk
                    have b14 : H0.size ≤ g26.size := v26.size
                    have q26 := n26.ext
                    have p26 := v26.trans q26
                    clear n26
                    replace y13 := q26.blk y13
                    refine ⟨q26.toP _, ?_⟩
                    intro g27 u27
                    have v27 := p26.trans u27
                    replace y13 := u27.blk y13
                    replace y14 := u27.blk y14
                    conv => whnf
                    intro g28 u28
                    have v28 := v27.trans u28
                    replace y13 := u28.blk y13
                    replace y14 := u28.blk y14
                    conv => whnf
                    refine ⟨_, rfl, _, right_fn x (O0.more v28) (D5.N n hn).at_.keys I5 (by omega) ((rks.more E0).more v28) (by omega), ?_⟩
                    rintro _ e28 ⟨wv', mv, rfl, oR, lR, q28, fR, gR⟩
                    have fR' : ∀ b, ob wv' b → ob (d n).wv b ∨ H0.size ≤ b := fun b hb => (fR b hb).imp (fun e => e) (fun e => by have := (v28).size; omega)
                    obtain ⟨aR, cR, eR, _⟩ := OW.fix oR
                    subst eR
                    have hkR := hkW
                    refine ⟨q28.toP _, ?_⟩
                    have p28 := v28.trans q28
                    replace y13 := q28.blk y13
                    replace y14 := q28.blk y14
                    intro g29 u29
                    have v29 := p28.trans u29
                    replace oR := OW.more oR u29
                    replace lR := OI.more lR u29
                    replace y13 := u29.blk y13
                    replace y14 := u29.blk y14
                    conv => whnf
                    refine ⟨_, fun h' e => rfl, ?_⟩
                    conv => whnf
                    refine ⟨_, fun h' e => rfl, ?_⟩
                    conv => whnf
                    refine ⟨_, fun h' e => rfl, ?_⟩
                    conv => whnf
                    intro g30 u30
                    have v30 := v29.trans u30
                    replace oR := OW.more oR u30
                    replace lR := OI.more lR u30
                    replace y13 := u30.blk y13
                    replace y14 := u30.blk y14
                    conv => whnf
                    refine store_ref y13 ?_
                    intro e30 w30
                    have p30 : ExtH H0 e30 := ⟨by have := w30.size; have := v30.size; omega, fun b hb => by rw [w30.block b (by omega), v30.block b hb]⟩
                    replace oR := OwnS.keep oR w30.chg (fun b hb e => by subst e; exact OwnS.ne oR y13 (by decide) hb)
                    replace lR := OI.keep lR w30.chg (fun b hb e => by subst e; exact OwnS.ne lR y13 (by decide) hb)
                    replace y14 := w30.blk y14 (blk_apart y14 y13 (by decide))
                    replace y13 := w30.new
                    refine ⟨⟨by have := w30.size; omega, fun b hb hlt => w30.block b (by have : b < H0.size := hb; omega)⟩, ?_⟩
                    intro g31 u31
                    have v31 := p30.trans u31
                    replace oR := OW.more oR u31
                    replace lR := OI.more lR u31
                    replace y13 := u31.blk y13
                    replace y14 := u31.blk y14
                    conv => whnf
                    intro g32 u32
                    have v32 := v31.trans u32
                    replace oR := OW.more oR u32
                    replace lR := OI.more lR u32
                    replace y13 := u32.blk y13
                    replace y14 := u32.blk y14
                    conv => whnf
                    refine store_told y14 hkR lR ?_
                    intro e32 w32
                    have p32 : ExtH H0 e32 := ⟨by have := w32.size; have := v32.size; omega, fun b hb => by rw [w32.block b (by omega), v32.block b hb]⟩
                    replace oR := OwnS.keep oR w32.chg (fun b hb e => by subst e; exact OwnS.ne oR y14 (by decide) hb)
                    replace lR := OI.keep lR w32.chg (fun b hb e => by subst e; exact OwnS.ne lR y14 (by decide) hb)
                    replace y13 := w32.blk y13 (blk_apart y13 y14 (by decide))
                    replace y14 := w32.new
                    exact ⟨rfl, _, _, _, _, ⟨rfl, rfl, rfl, rfl, rfl, rfl, rfl, rfl, trivial⟩, p32, y13, y14, oR, lR, fR'⟩
                · intro g33 u33
                  have v33 := xH.trans u33
                  conv => whnf
                  intro e33 n33
                  conv => whnf
                  have y14 : Blk e33 g33.size (toldC 0 false (.slice none 0 0) zeroW 0) 37 := n33.blk
                  have b14 : H0.size ≤ g33.size := v33.size
                  have q33 := n33.ext
                  have p33 := v33.trans q33
                  clear n33
                  refine ⟨q33.toP _, ?_⟩
                  intro g34 u34
                  have v34 := p33.trans u34
                  replace y14 := u34.blk y14
                  conv => whnf
                  refine ⟨?_, ?_⟩
                  · intro g35 u35
                    have v35 := v34.trans u35
                    replace y14 := u35.blk y14
                    conv => whnf
                    refine ⟨_, rfl, _, right_fn x (O0.more v35) (D5.N n hn).at_.keys I5 (by omega) ((rks.more E0).more v35) (by omega), ?_⟩
                    rintro _ e35 ⟨wv', mv, rfl, oR, lR, q35, fR, gR⟩
                    have fR' : ∀ b, ob wv' b → ob (d n).wv b ∨ H0.size ≤ b := fun b hb => (fR b hb).imp (fun e => e) (fun e => by have := (v35).size; omega)
                    obtain ⟨aR, cR, eR, _⟩ := OW.fix oR
                    subst eR
                    have hkR := hkW
                    refine ⟨q35.toP _, ?_⟩
                    have p35 := v35.trans q35
                    replace y14 := q35.blk y14
                    intro g36 u36
                    have v36 := p35.trans u36
                    replace oR := OW.more oR u36
                    replace lR := OI.more lR u36
                    replace y14 := u36.blk y14
                    conv => whnf
                    refine ⟨_, fun h' e => rfl, ?_⟩
                    conv => whnf
                    refine ⟨_, fun h' e => rfl, ?_⟩
                    conv => whnf
                    refine ⟨_, fun h' e => rfl, ?_⟩
                    conv => whnf
                    intro g37 u37
                    have v37 := v36.trans u37
                    replace oR := OW.more oR u37
                    replace lR := OI.more lR u37
                    replace y14 := u37.blk y14
                    conv => whnf
                    intro e37 n37
                    conv => whnf
                    have y13 : Blk e37 g37.size (refC 0 0 0 (.slice none 0 0)) 53 := n37.blk
                    have b13 : H0.size ≤ g37.size := v37.size
                    have q37 := n37.ext
                    have p37 := v37.trans q37
                    clear n37
                    replace oR := OW.more oR q37
                    replace lR := OI.more lR q37
                    replace y14 := q37.blk y14
                    refine ⟨q37.toP _, ?_⟩
                    intro g38 u38
                    have v38 := p37.trans u38
                    replace oR := OW.more oR u38
                    replace lR := OI.more lR u38
                    replace y13 := u38.blk y13
                    replace y14 := u38.blk y14
                    conv => whnf
                    intro g39 u39
                    have v39 := v38.trans u39
                    replace oR := OW.more oR u39
                    replace lR := OI.more lR u39
                    replace y13 := u39.blk y13
                    replace y14 := u39.blk y14
                    conv => whnf
                    refine store_ref y13 ?_
                    intro e39 w39
                    have p39 : ExtH H0 e39 := ⟨by have := w39.size; have := v39.size; omega, fun b hb => by rw [w39.block b (by omega), v39.block b hb]⟩
                    replace oR := OwnS.keep oR w39.chg (fun b hb e => by subst e; exact OwnS.ne oR y13 (by decide) hb)
                    replace lR := OI.keep lR w39.chg (fun b hb e => by subst e; exact OwnS.ne lR y13 (by decide) hb)
                    replace y14 := w39.blk y14 (blk_apart y14 y13 (by decide))
                    replace y13 := w39.new
                    refine ⟨⟨by have := w39.size; omega, fun b hb hlt => w39.block b (by have : b < H0.size := hb; omega)⟩, ?_⟩
                    intro g40 u40
                    have v40 := p39.trans u40
                    replace oR := OW.more oR u40
                    replace lR := OI.more lR u40
                    replace y13 := u40.blk y13
                    replace y14 := u40.blk y14
                    conv => whnf
                    intro g41 u41
                    have v41 := v40.trans u41
                    replace oR := OW.more oR u41
                    replace lR := OI.more lR u41
                    replace y13 := u41.blk y13
                    replace y14 := u41.blk y14
                    conv => whnf
                    refine store_told y14 hkR lR ?_
                    intro e41 w41
                    have p41 : ExtH H0 e41 := ⟨by have := w41.size; have := v41.size; omega, fun b hb => by rw [w41.block b (by omega), v41.block b hb]⟩
                    replace oR := OwnS.keep oR w41.chg (fun b hb e => by subst e; exact OwnS.ne oR y14 (by decide) hb)
                    replace lR := OI.keep lR w41.chg (fun b hb e => by subst e; exact OwnS.ne lR y14 (by decide) hb)
                    replace y13 := w41.blk y13 (blk_apart y13 y14 (by decide))
                    replace y14 := w41.new
                    exact ⟨rfl, _, _, _, _, ⟨rfl, rfl, rfl, rfl, rfl, rfl, rfl, rfl, trivial⟩, p41, y13, y14, oR, lR, fR'⟩
                  · intro g42 u42
                    have v42 := v34.trans u42
                    replace y14 := u42.blk y14
                    conv => whnf
                    intro e42 n42
                    conv => whnf
                    have y13 : Blk e42 g42.size (refC 0 0 0 (.slice none 0 0)) 53 := n42.blk
                    have b13 : H0.size ≤ g42.size := v42.size
                    have q42 := n42.ext
                    have p42 := v42.trans q42
                    clear n42
                    replace y14 := q42.blk y14
                    refine ⟨q42.toP _, ?_⟩
                    intro g43 u43
                    have v43 := p42.trans u43
                    replace y13 := u43.blk y13
                    replace y14 := u43.blk y14
                    conv => whnf
                    intro g44 u44
                    have v44 := v43.trans u44
                    replace y13 := u44.blk y13
                    replace y14 := u44.blk y14
                    conv => whnf
                    refine ⟨_, rfl, _, right_fn x (O0.more v44) (D5.N n hn).at_.keys I5 (by omega) ((rks.more E0).more v44) (by omega), ?_⟩
                    rintro _ e44 ⟨wv', mv, rfl, oR, lR, q44, fR, gR⟩
                    have fR' : ∀ b, ob wv' b → ob (d n).wv b ∨ H0.size ≤ b := fun b hb => (fR b hb).imp (fun e => e) (fun e => by have := (v44).size; omega)
                    obtain ⟨aR, cR, eR, _⟩ := OW.fix oR
                    subst eR
                    have hkR := hkW
                    refine ⟨q44.toP _, ?_⟩
                    have p44 := v44.trans q44
                    replace y13 := q44.blk y13
                    replace y14 := q44.blk y14
                    intro g45 u45
                    have v45 := p44.trans u45
                    replace oR := OW.more oR u45
                    replace lR := OI.more lR u45
                    replace y13 := u45.blk y13
                    replace y14 := u45.blk y14
                    conv => whnf
                    refine ⟨_, fun h' e => rfl, ?_⟩
                    conv => whnf
                    refine ⟨_, fun h' e => rfl, ?_⟩
                    conv => whnf
                    refine ⟨_, fun h' e => rfl, ?_⟩
                    conv => whnf
                    intro g46 u46
                    have v46 := v45.trans u46
                    replace oR := OW.more oR u46
                    replace lR := OI.more lR u46
                    replace y13 := u46.blk y13
                    replace y14 := u46.blk y14
                    conv => whnf
                    refine store_ref y13 ?_
                    intro e46 w46
                    have p46 : ExtH H0 e46 := ⟨by have := w46.size; have := v46.size; omega, fun b hb => by rw [w46.block b (by omega), v46.block b hb]⟩
                    replace oR := OwnS.keep oR w46.chg (fun b hb e => by subst e; exact OwnS.ne oR y13 (by decide) hb)
                    replace lR := OI.keep lR w46.chg (fun b hb e => by subst e; exact OwnS.ne lR y13 (by decide) hb)
                    replace y14 := w46.blk y14 (blk_apart y14 y13 (by decide))
                    replace y13 := w46.new
                    refine ⟨⟨by have := w46.size; omega, fun b hb hlt => w46.block b (by have : b < H0.size := hb; omega)⟩, ?_⟩
                    intro g47 u47
                    have v47 := p46.trans u47
                    replace oR := OW.more oR u47
                    replace lR := OI.more lR u47
                    replace y13 := u47.blk y13
                    replace y14 := u47.blk y14
                    conv => whnf
                    intro g48 u48
                    have v48 := v47.trans u48
                    replace oR := OW.more oR u48
                    replace lR := OI.more lR u48
                    replace y13 := u48.blk y13
                    replace y14 := u48.blk y14
                    conv => whnf
                    refine store_told y14 hkR lR ?_
                    intro e48 w48
                    have p48 : ExtH H0 e48 := ⟨by have := w48.size; have := v48.size; omega, fun b hb => by rw [w48.block b (by omega), v48.block b hb]⟩
                    replace oR := OwnS.keep oR w48.chg (fun b hb e => by subst e; exact OwnS.ne oR y14 (by decide) hb)
                    replace lR := OI.keep lR w48.chg (fun b hb e => by subst e; exact OwnS.ne lR y14 (by decide) hb)
                    replace y13 := w48.blk y13 (blk_apart y13 y14 (by decide))
                    replace y14 := w48.new
                    exact ⟨rfl, _, _, _, _, ⟨rfl, rfl, rfl, rfl, rfl, rfl, rfl, rfl, trivial⟩, p48, y13, y14, oR, lR, fR'⟩
              · rintro e fr h11 ⟨rfl, b14, b15, wv', mv, hsub, x11, y14, y15, o11, m11, f11⟩
                refine cw_keep _ hsub ?_
                have D11 := D0.more x11
                have yt11 := x11.blk yt0
                have l11 := l0.more x11
                refine cw_seq (cw_region rfl ?_)
                conv => whnf
                refine ⟨_, rfl, y14.all, ?_⟩
                conv => whnf
                refine ⟨⟨by omega, by omega⟩, ?_⟩
                conv => whnf
                have h00 := E0.size
                refine store_duo D11 (m := n) hn (by show 0 + ((n : Int)).toNat * 4 = n * 4; omega) o11 (fun c hc => ?_) (fun k hk c hc e => ?_) ?_
                · rcases f11 c hc with e | e
                  · have := D0.w0 n hn c; rw [e1] at this; exact this e
                  · omega
                · rcases f11 c hc with e' | e'
                  · have := D0.wv n hn k hk c; rw [e1] at this; exact this e' e
                  · have := OwnS.lt (D0.N k hk).at_.own e; omega
                intro h12 D12 c12
                have yt12 := c12.blk yt11 (blk_apart yt11 D11.A10 (by decide))
                have y15' := c12.blk y15 (blk_apart y15 D11.A10 (by decide))
                have l12 := OI.keep l11 c12 (fun c hc e => by subst e; exact OwnS.ne l11 D11.A10 (by decide) hc)
                have m12 := OI.keep m11 c12 (fun c hc e => by subst e; exact OwnS.ne m11 D11.A10 (by decide) hc)
                have hln := told_length (n := (askS wk sl id (d n).ws x).2.n) (s := (askS wk sl id (d n).ws x).2.s) (e := (askS wk sl id (d n).ws x).2.e) (lv := lv) hkW
                have hln2 := told_length (n := (askS wk sl id (d n).ws x).2.n) (s := (askS wk sl id (d n).ws x).2.s) (e := (askS wk sl id (d n).ws x).2.e) (lv := mv) hkW
                refine cw_seq (cw_region rfl ?_)
                conv => whnf
                refine ⟨_, by rw [hln]; rfl, yt12.all, ?_⟩
                conv => whnf
                refine ⟨_, by rw [hln2]; rfl, y15'.all, ?_⟩
                conv => whnf
                refine ⟨_, rfl, _, same_yes hkW l12.r m12.r, ?_⟩
                rintro _ h13 ⟨rfl, x13⟩
                conv => whnf
                refine cw_false rfl (cw_skip ?_)
                refine ⟨rfl, n, _, ⟨rfl, rfl, rfl, rfl, rfl, trivial⟩, hn, D12.more x13, fun k hk => ?_⟩
                by_cases hkn : k = n
                · subst hkn
                  rw [upd_same]
                  refine ⟨?_, ?_⟩
                  · show _ = (upd d k _ k).ws
                    rw [upd_same]
                  · show (upd d k _ k).ws.length ≤ _
                    rw [upd_same]
                    show (askS wk sl id (d k).ws x).1.length ≤ _
                    omega
                · rw [upd_ne _ _ hkn, upd_ne _ _ hkn]
                  exact ⟨(hd k hk).1, by have := (hd k hk).2; omega⟩
      · rintro e fr h' ⟨rfl, m, d', hsub, hm, D, hd'⟩
        refine cw_keep _ hsub ?_
        refine cw_seq (cw_region rfl ?_)
        conv => whnf
        refine ⟨⟨by decide, by decide⟩, ?_⟩
        conv => whnf
        refine ⟨_, D.r9 (n := 0) (by decide), ?_⟩
        conv => whnf
        refine ⟨.bool false, fun w => by kernel_rfl, ?_⟩
        conv => whnf
        refine ⟨⟨by decide, by decide⟩, ?_⟩
        conv => whnf
        refine ⟨_, D.r9 (n := 1) (by decide), ?_⟩
        conv => whnf
        refine ⟨.bool false, fun w => by kernel_rfl, ?_⟩
        conv => whnf
        refine ⟨⟨by decide, by decide⟩, ?_⟩
        conv => whnf
        refine ⟨_, D.r9 (n := 0) (by decide), ?_⟩
        conv => whnf
        refine ⟨⟨by decide, by decide⟩, ?_⟩
        conv => whnf
        refine ⟨_, rfl, D.r10 (n := 0) (by decide), ?_⟩
        conv => whnf
        refine ⟨_, rfl, _, D.is (k := 0) (by decide) (hd' 0 (by decide)).1 (by have := (hd' 0 (by decide)).2; omega), ?_⟩
        rintro _ h6 ⟨rfl, x6⟩
        have D6 := D.more x6
        conv => whnf
        refine ⟨⟨by decide, by decide⟩, ?_⟩
        conv => whnf
        refine ⟨_, D6.r9 (n := 1) (by decide), ?_⟩
        conv => whnf
        refine ⟨⟨by decide, by decide⟩, ?_⟩
        conv => whnf
        refine ⟨_, rfl, D6.r10 (n := 1) (by decide), ?_⟩
        conv => whnf
        refine ⟨_, rfl, _, D6.is (k := 1) (by decide) (hd' 1 (by decide)).1 (by have := (hd' 1 (by decide)).2; omega), ?_⟩
        rintro _ h7 ⟨rfl, x7⟩
        have D7 := D6.more x7
        conv => whnf
        refine cw_false rfl (cw_skip ?_)
        refine cw_region rfl ?_
        exact ⟨(t + 1, m), ⟨rfl, rfl, rfl, rfl, slot_i64 _ _ (by simp) (by show t + 1 < _; omega), trivial⟩, ⟨by show t + 1 ≤ _; omega, hm, d', D7, hd'⟩, by show os.length - (t + 1) < os.length - t; omega⟩
    · refine cw_no rfl (by show ¬ (t : Int) < _; omega) (cw_exit ?_)
      refine cw_seq (cw_region rfl ?_)
      conv => whnf
      refine ⟨_, rfl, _, awake_fn h5, ?_⟩
      rintro _ h6 ⟨rfl, x6⟩
      exact cw_ret ⟨rfl, ((D5.N 0 (by decide)).more x6).ext⟩
  · refine ⟨_, rfl, _, new_no wk sl id hl ha, ?_⟩
    rintro _ h1 ⟨rfl, rfl⟩
    conv => whnf
    refine cw_seq (cw_region rfl ?_)
    conv => whnf
    refine ⟨_, ya.rd (o := 0) rfl, ?_⟩
    conv => whnf
    refine ⟨_, ya.rd (o := 1) rfl, ?_⟩
    conv => whnf
    refine ⟨_, ya.rd (o := 2) rfl, ?_⟩
    conv => whnf
    refine ⟨_, rfl, _, rnew_no wk sl id hl h1, ?_⟩
    rintro _ h2 ⟨rfl, x2⟩
    conv => whnf
    intro h3 n3
    have y3 : Blk h3 h2.size (refC 0 0 0 (.slice none 0 0)) 53 := n3.blk
    have x3 := n3.ext
    have z3 := n3.size
    clear n3
    conv => whnf
    refine store_ref y3 ?_
    intro h4 w4
    have z4 := w4.size
    have x24 : ExtH h2 h4 := ⟨by omega, fun b hb => by rw [w4.block b (by omega), x3.block b hb]⟩
    conv => whnf
    refine cw_seq (cw_seq (cw_region rfl ?_))
    conv => whnf
    refine ⟨.bool false, fun w => by kernel_rfl, ?_⟩
    conv => whnf
    refine ⟨.bool false, fun w => by kernel_rfl, ?_⟩
    conv => whnf
    refine cw_false rfl (cw_skip ?_)
    refine cw_seq (cw_seq (cw_region rfl ?_))
    conv => whnf
    refine cw_true rfl ?_
    refine cw_seq (cw_region rfl ?_)
    conv => whnf
    refine ⟨_, rfl, _, awake_fn h4, ?_⟩
    rintro _ h5 ⟨rfl, x5⟩
    conv => whnf
    exact cw_ret ⟨rfl, ((xa.trans x2).trans x24).trans x5⟩
end Go.Proofs.Ytcmjgkjnnmfijaa