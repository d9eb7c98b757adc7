/-
  PoolIdle: the walk.
-/
import Derived.Test.YtcmjgkjnnmfijaaPoolIdleL
namespace Go.Proofs.Ytcmjgkjnnmfijaa
open Go Vm
set_option maxRecDepth 100000
set_option linter.unusedVariables false
set_option linter.unusedSimpArgs false
set_option maxHeartbeats 2000000
theorem counti_take (l : List Int) (n : Int) (t : Nat) (x : Int) (hx : l[t]? = some x) : (l.take (t + 1)).count n = (l.take t).count n + (if x = n then 1 else 0) := by
  rw [List.take_add_one, hx, List.count_append]
  congr 1
  show [x].count n = _
  by_cases h : x = n
  · subst h; simp
  · rw [if_neg h, List.count_eq_zero]
    intro e
    exact h (List.mem_singleton.1 e).symm
theorem idle_fn {h : Heap} {ov : Value} {os : List (Opv × Value)} (wk sl id : Int) (k : Nat) (hk255 : k < 256) (r : RO h ov os) :
    Fx Try.prog 5 #[.agg #[.int .i64 wk, .int .i64 sl, .int .i64 id], ov, .int .u8 (k : Int)] h fun u h' => u = .bool true ∧ ExtH h h' := by
  refine fn_of 112 Try.func5 rfl (by kernel_rfl) rfl (by simp) ?_
  obtain ⟨oa, oc, hoe, hom⟩ := r.fix
  subst hoe
  have hmax : maxLen < 9223372036854775808 := by decide
  refine cw_seq (cw_region rfl ?_)
  conv => whnf
  intro ha na
  have ya : Blk ha h.size [.int .i64 wk, .int .i64 sl, .int .i64 id] 23 := na.blk
  have xa := na.ext
  have za := na.size
  clear na
  refine cw_seq (cw_region rfl ?_)
  conv => whnf
  refine ⟨[.int .i64 wk, .int .i64 sl, .int .i64 id], rfl, ya.all, ?_⟩
  conv => whnf
  by_cases hl : okLim wk sl id
  · refine ⟨_, rfl, _, lived_yes wk sl id hl (r.more xa), ?_⟩
    rintro _ h1 ⟨p, v, rfl, N1⟩
    have I := (Inv.nil hl).lived (ops1 os)
    have hlen := lived_length wk sl id [] (ops1 os)
    have hlen2 : (ops1 os).length ≤ 10000000 := by unfold ops1; rw [List.length_map]; exact r.small
    generalize livedS wk sl id [] (ops1 os) = ws at N1 I hlen
    simp only [List.length_nil] at hlen
    have hwk : 0 < wk := by have := I.lim.1; omega
    have hidl := I.lim.2.2.2.2.2
    conv => whnf
    refine cw_seq (cw_seq (cw_region rfl ?_))
    conv => whnf
    refine ⟨.bool false, fun w => by kernel_rfl, ?_⟩
    refine cw_false rfl (cw_skip ?_)
    refine cw_seq (cw_region rfl ?_)
    conv => whnf
    refine ⟨_, rfl, _, all_fn N1.at_ hwk (by omega), ?_⟩
    rintro lv h2 ⟨o2, x2, f2⟩
    have kL := keysOk_filter N1.at_.keys shown
    have hLi : ∀ w ∈ ws.filter shown, ∃ i, ws[i]? = some w := fun w hw => by
      obtain ⟨i, hi, e⟩ := List.getElem_of_mem (List.mem_filter.1 hw).1
      exact ⟨i, by rw [List.getElem?_eq_getElem hi, e]⟩
    have hLl : (ws.filter shown).length ≤ 10000000 := Nat.le_trans (List.length_filter_le _ _) (by omega)
    generalize ws.filter shown = L at o2 kL hLi hLl
    have N2 := N1.more x2
    obtain ⟨la, lc, hle, _⟩ := o2.fix
    subst hle
    have y2 := x2.blk (N1.ext.blk ya)
    have lv2 : ∀ b, ob (.slice la L.length lc) b → b < h2.size := fun b hb => OwnS.lt o2 hb
    have pv2 : ∀ b, ob v b → b < h2.size := fun b hb => OwnS.lt N2.at_.own hb
    have lvn : ∀ b, ob (.slice la L.length lc) b → ¬ ob v b := fun b hb e => by
      have h1 := f2 b hb
      have h3 := OwnS.lt N1.at_.own e
      omega
    have zh2 : ha.size ≤ h2.size := N2.ext.size
    have gbp : h.size ≠ p := by have := N1.p; omega
    have gbv : ¬ ob v h.size := fun e => by have := N1.v _ e; omega
    conv => whnf
    refine cw_seq (cw_region rfl ?_)
    conv => whnf
    rw [i64_nat k (by omega)]
    refine cw_seq (cw_region rfl ?_)
    refine cw_seq (cw_seq (cw_region rfl ?_))
    refine cw_block ?_
    refine cw_loop (S := Nat × Value) (fun s => match s with | (t, dv) => [(3, .pointer (some ⟨h.size, 0, none⟩)), (7, .pointer (some ⟨p, 0, none⟩)), (8, .slice la L.length lc), (9, .int .i64 (k : Int)), (10, dv), (11, .int .i64 (t : Int))])
      (fun s h' => s.1 ≤ k ∧ PoolNew ha h' p v wk sl id (ticks id s.1 ws) ∧ OI h' s.2 (deadL id s.1 ws) ∧ (∀ b, ob s.2 b → h2.size ≤ b) ∧ OW h' (.slice la L.length lc) L ∧ h2.size ≤ h'.size ∧ Blk h' h.size [.int .i64 wk, .int .i64 sl, .int .i64 id] 23) (fun s => k - s.1) (0, .slice none 0 0) ⟨rfl, rfl, rfl, rfl, rfl, rfl, trivial⟩
      ⟨by show 0 ≤ _; omega, N2, OI.nil h2, fun b hb => (ob_nil hb).elim, o2, Nat.le_refl _, y2⟩ ?_
    clear N1 N2 o2 y2 x2 f2
    rintro ⟨t, dv⟩ h3 ⟨ht, N3, o3, f3, l3, z3, y3⟩
    simp only at ht N3 o3 f3
    have hdl := deadL_length id ws t
    have htl := ticks_length id ws t
    have hdl2 : (deadL id t ws).length ≤ 256 * 10000000 := Nat.le_trans hdl (Nat.mul_le_mul (by omega) (by omega))
    obtain ⟨da, dc, hde, _⟩ := (OwnS.src o3).form
    subst hde
    refine cw_seq (cw_seq (cw_region rfl ?_))
    conv => whnf
    by_cases hlt : t < k
    · refine cw_yes rfl (by show (t : Int) < _; omega) (cw_skip ?_)
      refine cw_seq (cw_block (cw_region rfl ?_))
      conv => whnf
      refine ⟨_, rfl, _, tick_fn N3.at_ (I.ticks t) (by omega), ?_⟩
      rintro u h4 ⟨o4, A4, c4, f4⟩
      have N4 := N3.turn A4 (Turned.of_chg c4)
      have ol := tickOut_length id (ticks id t ws)
      have z4 := c4.size
      have o34 := o3.keep c4 (fun b hb e => by have := f3 b hb; have := pv2 b e; omega)
      have l4 := OwnS.keep l3 c4 (fun b hb e => lvn b hb e)
      have y4 := c4.blk y3 gbv
      conv => whnf
      refine ⟨_, rfl, _, append_i (ty := 35) o34 o4.r (by omega), ?_⟩
      rintro v5 h5 ⟨o5, c5, f5⟩
      have z5 := c5.size
      have A5 := A4.keep c5 (fun e => by have := f3 _ e; have := N3.at_.blk.lt; exact OwnS.ne o34 A4.blk (by decide) e) (fun b hb e => by have := f3 b e; have := pv2 b hb; omega)
      have N5 : PoolNew ha h5 p v wk sl id (ticks id (t + 1) ws) := ⟨A5, ⟨by have := N4.ext.size; omega, fun b hb => by
        have hz := N4.ext.size
        rw [c5.block b (by omega) (fun e => by have := f3 b e; omega), N4.ext.block b hb]⟩, N4.p, N4.v⟩
      have y5 := c5.blk y4 (fun e => by have := f3 _ e; omega)
      have l5 := OwnS.keep l4 c5 (fun b hb e => by have := f3 b e; have := lv2 b hb; omega)
      refine cw_region rfl ?_
      exact ⟨(t + 1, v5), ⟨rfl, rfl, rfl, rfl, rfl, slot_i64 _ _ (by simp) (by show t + 1 < _; omega), trivial⟩, ⟨by show t + 1 ≤ _; omega, N5, o5, fun b hb => (f5 b hb).elim (f3 b) (fun e => by omega), l5, by omega, y5⟩, by show k - (t + 1) < k - t; omega⟩
    · refine cw_no rfl (by show ¬ (t : Int) < _; omega) (cw_exit ?_)
      have tn : t = k := by omega
      subst tn
      have hcount := fun i w hw => dead_count I (i := i) (w := w) hw t
      have hnow := fun i w hw => ticks_at id (ws := ws) (i := i) (w := w) hw t
      have IK := I.ticks t
      generalize deadL id t ws = D at o3 f3 hdl hdl2 hcount
      generalize ticks id t ws = wsK at N3 htl hnow IK
      refine cw_seq (cw_seq (cw_region rfl ?_))
      refine cw_block ?_
      refine cw_loop (S := Nat) (fun i => [(3, .pointer (some ⟨h.size, 0, none⟩)), (7, .pointer (some ⟨p, 0, none⟩)), (8, .slice la L.length lc), (9, .int .i64 (t : Int)), (10, .slice da D.length dc), (12, .int .i64 (i : Int))])
        (fun i h' => i ≤ L.length ∧ ExtH h3 h') (fun i => L.length - i) 0 ⟨rfl, rfl, rfl, rfl, rfl, rfl, trivial⟩ ⟨by omega, ExtH.refl _⟩ ?_
      rintro i h4 ⟨hi, x4⟩
      refine cw_seq (cw_seq (cw_region rfl ?_))
      conv => whnf
      by_cases hil : i < L.length
      · refine cw_yes rfl (by show (i : Int) < _; omega) (cw_skip ?_)
        have hwL : L[i]? = some L[i] := List.getElem?_eq_getElem hil
        generalize L[i] = w at hwL
        have hk := keysOk_get kL hwL
        obtain ⟨q, hq⟩ := hLi w (List.mem_of_getElem? hwL)
        have hok := I.ok (List.mem_of_getElem? hq)
        have hwn := I.num q w hq
        have hcw := hcount q w hq
        have hnw := hnow q w hq
        have hst6 := (IK.ok (List.mem_of_getElem? hnw)).st
        have hkn := keysOk_get N3.at_.keys hnw
        have elk : lookS wsK w.n = (tickN id t w, 0) := by rw [hwn]; exact look_at hnw hst6
        obtain ⟨g, c, hv, hr⟩ := (OW.more l3 x4).get kL hwL
        injection hv with hv1 _ hv2
        subst hv1 hv2
        refine cw_seq (cw_block (cw_seq (cw_region rfl ?_)))
        conv => whnf
        refine ⟨⟨by omega, by omega⟩, ?_⟩
        conv => whnf
        refine ⟨wkC w, by rw [wkC_length hk]; rfl, by rwa [show i * 37 = 0 + ((i : Int)).toNat * 37 by omega] at hr, ?_⟩
        conv => whnf
        intro h5 n5
        conv => whnf
        refine store_wk (a := zeroW) n5.blk zeroW_key hk ?_
        intro h6 w6
        have z4 := x4.size; have z5 := n5.size; have z6 := w6.size
        have x46 : ExtH h4 h6 := ⟨by omega, fun b hb => by rw [w6.block b (by omega), n5.block b (by omega)]⟩
        have yw6 := w6.new
        clear n5 w6
        have N6 := N3.more (x4.trans x46)
        refine cw_seq (cw_region rfl ?_)
        conv => whnf
        refine ⟨_, yw6.rd (o := 0) rfl, ?_⟩
        conv => whnf
        refine ⟨_, rfl, _, look_fn w.n N6.at_ hwk, ?_⟩
        rw [elk]
        rintro _ h7 ⟨rfl, x7⟩
        have e1 := fun hh => tickN_other (id := id) (w := w) hh t
        have e2 := fun hh h2 => tickN_early (id := id) (w := w) hh t h2
        have e3 := fun hh h2 => tickN_late (id := id) (w := w) hh hok.idle.2 t h2
        generalize tickN id t w = now at hnw hst6 hkn elk e1 e2 e3
        conv => whnf
        intro h8 n8
        conv => whnf
        refine store_wk (a := zeroW) n8.blk zeroW_key hkn ?_
        intro h9 w9
        have z7 := x7.size; have z8 := n8.size; have z9 := w9.size
        have x79 : ExtH h7 h9 := ⟨by omega, fun b hb => by rw [w9.block b (by omega), n8.block b (by omega)]⟩
        have yn9 := w9.new
        have yw9 := (x7.trans x79).blk yw6
        have N9 := (N6.more x7).more x79
        have x49 := (x46.trans x7).trans x79
        have yg9 := (x4.trans x49).blk y3
        clear n8 w9 N6 yw6
        conv => whnf
        refine cw_seq (cw_seq (cw_region rfl ?_))
        refine cw_false rfl (cw_skip ?_)
        refine cw_seq (cw_region rfl ?_)
        refine cw_seq (cw_seq (cw_region rfl ?_))
        refine cw_block ?_
        refine cw_loop (S := Nat) (fun j => [(3, .pointer (some ⟨h.size, 0, none⟩)), (7, .pointer (some ⟨p, 0, none⟩)), (8, .slice (some ⟨g, 0, none⟩) L.length lc), (9, .int .i64 (t : Int)), (10, .slice da D.length dc), (12, .int .i64 (i : Int)), (13, .pointer (some ⟨h4.size, 0, none⟩)), (14, .pointer (some ⟨h7.size, 0, none⟩)), (16, .int .i64 ((D.take j).count w.n : Int)), (17, .int .i64 (j : Int))])
          (fun j h' => j ≤ D.length ∧ ExtH h9 h') (fun j => D.length - j) 0 ⟨rfl, rfl, rfl, rfl, rfl, rfl, rfl, rfl, rfl, rfl, trivial⟩ ⟨by omega, ExtH.refl _⟩ ?_
        rintro j h10 ⟨hj, x10⟩
        have yw10 := x10.blk yw9
        have yn10 := x10.blk yn9
        have yg10 := x10.blk yg9
        have hcle : (D.take j).count w.n ≤ j := Nat.le_trans List.count_le_length (by rw [List.length_take]; omega)
        refine cw_seq (cw_seq (cw_region rfl ?_))
        conv => whnf
        by_cases hjl : j < D.length
        · refine cw_yes rfl (by show (j : Int) < _; omega) (cw_skip ?_)
          have hd : D[j]? = some D[j] := List.getElem?_eq_getElem hjl
          have hgd : D.getD j 0 = D[j] := by rw [List.getD_eq_getElem?_getD, hd]; rfl
          obtain ⟨db, do_, rfl, hrd⟩ := ((o3.more x4).more (x49.trans x10)).r.get j hjl
          rw [hgd] at hrd
          generalize D[j] = d at hd hrd
          have hct := counti_take D w.n j d hd
          refine cw_seq (cw_block (cw_seq ?_))
          refine cw_drawn (by kernel_rfl) 6 (fun _ => false) (List.range 6) (by kernel_rfl) rfl ?_
          conv => whnf
          refine ⟨⟨by omega, by omega⟩, ?_⟩
          conv => whnf
          refine ⟨_, by rwa [show do_ + j = do_ + ((j : Int)).toNat by omega] at hrd, ?_⟩
          conv => whnf
          refine ⟨_, yw10.rd (o := 0) rfl, ?_⟩
          conv => whnf
          intro h11 x11
          conv => whnf
          by_cases hdw : d = w.n
          · rw [if_pos hdw] at hct
            refine cw_beq_yes rfl hdw ?_
            refine cw_region rfl ?_
            conv => whnf
            refine cw_region rfl ?_
            exact ⟨j + 1, ⟨rfl, rfl, rfl, rfl, rfl, rfl, rfl, rfl, slot_i64 _ _ (by rw [hct]; simp) (by rw [hct]; omega), slot_i64 _ _ (by omega) (by omega), trivial⟩, ⟨by omega, x10.trans x11⟩, by omega⟩
          · rw [if_neg hdw] at hct
            refine cw_beq_no rfl hdw (cw_skip ?_)
            refine cw_region rfl ?_
            exact ⟨j + 1, ⟨rfl, rfl, rfl, rfl, rfl, rfl, rfl, rfl, by show some (Value.int .i64 _) = some (Value.int .i64 _); rw [hct]; simp, slot_i64 _ _ (by omega) (by omega), trivial⟩, ⟨by omega, x10.trans x11⟩, by omega⟩
        · refine cw_no rfl (by show ¬ (j : Int) < _; omega) (cw_exit ?_)
          have jn : j = D.length := by omega
          subst jn
          rw [List.take_length, hcw]
          have fin := x4.trans (x49.trans x10)
          refine cw_seq (cw_seq (cw_region rfl ?_))
          conv => whnf
          refine ⟨_, yw10.rd (o := 1) rfl, ?_⟩
          conv => whnf
          by_cases hst : w.st = 2
          · refine cw_bne_no rfl hst (cw_skip ?_)
            refine cw_seq (cw_region rfl ?_)
            conv => whnf
            refine ⟨_, yw10.rd (wkC_get_id hk), ?_⟩
            conv => whnf
            refine ⟨_, yg10.rd (o := 2) rfl, ?_⟩
            conv => whnf
            have hidw := hok.idle
            rw [i64_in (w.id + (t : Int)) (by omega) (by omega)]
            by_cases hlate : id ≤ w.id + t
            · have h6 := e3 hst hlate
              rw [if_pos ⟨hst, hlate⟩]
              refine cw_yes rfl hlate ?_
              refine cw_seq (cw_region rfl ?_)
              conv => whnf
              refine ⟨_, yn10.rd (o := 1) rfl, ?_⟩
              refine ops_q (v := .bool false) rfl rfl (fun k hk => say_ne_no h6 hk) ?_
              conv => whnf
              refine cw_bne_no rfl rfl (cw_skip ?_)
              refine cw_region rfl ?_
              exact ⟨i + 1, ⟨rfl, rfl, rfl, rfl, rfl, slot_i64 _ _ (by omega) (by omega), trivial⟩, ⟨by omega, fin⟩, by omega⟩
            · have h6 := e2 hst (by omega)
              rw [if_neg (fun e => hlate e.2)]
              refine cw_no rfl hlate ?_
              refine cw_seq (cw_region rfl ?_)
              conv => whnf
              refine ⟨_, yn10.rd (o := 1) rfl, ?_⟩
              refine ops_q (v := .bool false) rfl rfl (fun k hk => say_ne_no (by rw [h6]; exact hst) hk) ?_
              conv => whnf
              refine ⟨_, yn10.rd (wkC_get_id hkn), ?_⟩
              conv => whnf
              refine ⟨_, yw10.rd (wkC_get_id hk), ?_⟩
              refine ops_g (b := false) rfl rfl rfl rfl (fun k hk => hk) ?_
              refine ops_g (v := .int .i64 (w.id + (t : Int))) (b := false) rfl rfl rfl rfl (fun k hk => by show k (.int .i64 (IntKind.i64.wrap (w.id + (t : Int)))); rw [i64_in _ (by omega) (by omega)]; exact hk) ?_
              refine ops_g (v := .bool false) (b := false) rfl rfl rfl rfl (fun k hk => say_ne_no (by rw [h6]) hk) ?_
              conv => whnf
              refine cw_bne_no rfl rfl (cw_skip ?_)
              refine cw_region rfl ?_
              exact ⟨i + 1, ⟨rfl, rfl, rfl, rfl, rfl, slot_i64 _ _ (by omega) (by omega), trivial⟩, ⟨by omega, fin⟩, by omega⟩
          · have h6 := e1 hst
            rw [if_neg (fun e => hst e.1)]
            refine cw_bne_yes rfl hst ?_
            refine cw_seq (cw_seq (cw_region rfl ?_))
            conv => whnf
            refine ⟨wkC now, by rw [wkC_length hkn]; rfl, yn10.all, ?_⟩
            conv => whnf
            refine ⟨wkC w, by rw [wkC_length hk]; rfl, yw10.all, ?_⟩
            conv => whnf
            refine ⟨.bool false, fun wd => by rw [wk_ne _ _ hkn hk, decide_eq_true h6]; rfl, ?_⟩
            conv => whnf
            refine cw_bne_no rfl rfl (cw_skip ?_)
            refine cw_exit ?_
            refine cw_region rfl ?_
            exact ⟨i + 1, ⟨rfl, rfl, rfl, rfl, rfl, slot_i64 _ _ (by omega) (by omega), trivial⟩, ⟨by omega, fin⟩, by omega⟩
      · refine cw_no rfl (by show ¬ (i : Int) < _; omega) (cw_exit ?_)
        refine cw_seq (cw_region rfl ?_)
        conv => whnf
        refine ⟨_, rfl, _, awake_fn h4, ?_⟩
        rintro _ h5 ⟨rfl, x5⟩
        exact cw_ret ⟨rfl, xa.trans ((N3.more x4).more x5).ext⟩
  · refine ⟨_, rfl, _, lived_no wk sl id hl (r.more xa), ?_⟩
    rintro _ h1 ⟨rfl, x1⟩
    conv => whnf
    refine cw_seq (cw_seq (cw_region rfl ?_))
    conv => whnf
    refine ⟨.bool true, fun w => by kernel_rfl, ?_⟩
    refine cw_true rfl ?_
    refine cw_seq (cw_region rfl ?_)
    conv => whnf
    refine ⟨_, rfl, _, awake_fn h1, ?_⟩
    rintro _ h2 ⟨rfl, x2⟩
    exact cw_ret ⟨rfl, (xa.trans x1).trans x2⟩
end Go.Proofs.Ytcmjgkjnnmfijaa
