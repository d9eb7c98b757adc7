/-
  The document's pool: New, Start, Tick, All, Same.
-/
import Derived.Test.YtcmjgkjnnmfijaaPoolRef2
namespace Go.Proofs.Ytcmjgkjnnmfijaa
open Go Vm
set_option maxRecDepth 100000
set_option linter.unusedVariables false
set_option linter.unusedSimpArgs false
set_option maxHeartbeats 1000000
theorem own_blk {h : Heap} {e : TypeId} {k : Nat} {v : Value} {n : Nat} {xs : List Value} (H : OwnS h e k v n xs) {b : Nat} (hb : ob v b) : ∃ l, Blk h b l e := by
  rcases H.2 with ⟨rfl, _⟩ | ⟨g, c, tl, rfl, hg, _⟩
  · exact (ob_nil hb).elim
  · rw [ob_slice] at hb
    subst hb
    exact ⟨_, hg⟩
theorem own_apart {h : Heap} {e e' : TypeId} {k k' : Nat} {v v' : Value} {n n' : Nat} {xs xs' : List Value} (H : OwnS h e k v n xs) (H' : OwnS h e' k' v' n' xs') (ht : e ≠ e') {b : Nat} (hb : ob v b) : ¬ ob v' b := by
  obtain ⟨l, hl⟩ := own_blk H hb
  exact OwnS.ne H' hl ht
theorem rbuild_new (n slots : Int) (key : List UInt8) (hk : key.length = 32) (wd : World) : (Instr.build 31 #[(0, .int .i64 n), (1, .int .i64 1), (2, .int .i64 slots), (3, .agg (key.map u8v).toArray)]).run Try.prog wd = .ok (.agg (wkC ⟨n, 1, slots, key, 0, 0⟩).toArray) wd := by
  obtain ⟨a0, l1, rfl, h1⟩ := cons_of hk
  obtain ⟨a1, l2, rfl, h2⟩ := cons_of h1
  obtain ⟨a2, l3, rfl, h3⟩ := cons_of h2
  obtain ⟨a3, l4, rfl, h4⟩ := cons_of h3
  obtain ⟨a4, l5, rfl, h5⟩ := cons_of h4
  obtain ⟨a5, l6, rfl, h6⟩ := cons_of h5
  obtain ⟨a6, l7, rfl, h7⟩ := cons_of h6
  obtain ⟨a7, l8, rfl, h8⟩ := cons_of h7
  obtain ⟨a8, l9, rfl, h9⟩ := cons_of h8
  obtain ⟨a9, l10, rfl, h10⟩ := cons_of h9
  obtain ⟨a10, l11, rfl, h11⟩ := cons_of h10
  obtain ⟨a11, l12, rfl, h12⟩ := cons_of h11
  obtain ⟨a12, l13, rfl, h13⟩ := cons_of h12
  obtain ⟨a13, l14, rfl, h14⟩ := cons_of h13
  obtain ⟨a14, l15, rfl, h15⟩ := cons_of h14
  obtain ⟨a15, l16, rfl, h16⟩ := cons_of h15
  obtain ⟨a16, l17, rfl, h17⟩ := cons_of h16
  obtain ⟨a17, l18, rfl, h18⟩ := cons_of h17
  obtain ⟨a18, l19, rfl, h19⟩ := cons_of h18
  obtain ⟨a19, l20, rfl, h20⟩ := cons_of h19
  obtain ⟨a20, l21, rfl, h21⟩ := cons_of h20
  obtain ⟨a21, l22, rfl, h22⟩ := cons_of h21
  obtain ⟨a22, l23, rfl, h23⟩ := cons_of h22
  obtain ⟨a23, l24, rfl, h24⟩ := cons_of h23
  obtain ⟨a24, l25, rfl, h25⟩ := cons_of h24
  obtain ⟨a25, l26, rfl, h26⟩ := cons_of h25
  obtain ⟨a26, l27, rfl, h27⟩ := cons_of h26
  obtain ⟨a27, l28, rfl, h28⟩ := cons_of h27
  obtain ⟨a28, l29, rfl, h29⟩ := cons_of h28
  obtain ⟨a29, l30, rfl, h30⟩ := cons_of h29
  obtain ⟨a30, l31, rfl, h31⟩ := cons_of h30
  obtain ⟨a31, l32, rfl, h32⟩ := cons_of h31
  obtain rfl := List.eq_nil_of_length_eq_zero h32
  kernel_rfl
theorem rnew_yes (wk sl id : Int) (hl : okLim wk sl id) (h : Heap) :
    Fx Try.prog 19 #[.int .i64 wk, .int .i64 sl, .int .i64 id] h fun u h' => u = .tuple #[.agg (refC wk sl id (.slice none 0 0)).toArray, .int .i64 0] ∧ ExtH h h' := by
  obtain ⟨l1, l2, l3, l4, l5, l6⟩ := hl
  refine fn_of 35 Try.func19 rfl (by kernel_rfl) rfl (by simp) ?_
  refine cw_seq (cw_region rfl ?_)
  conv => whnf
  intro h1 n1
  have y1 : Blk h1 h.size (refC 0 0 0 (.slice none 0 0)) 53 := n1.blk
  have x1 := n1.ext
  have z1 := n1.size
  clear n1
  conv => whnf
  refine cw_seq (cw_seq (cw_region rfl ?_))
  refine ops_q rfl rfl (fun k hk => hk) ?_
  refine ops_q (v := .bool false) rfl rfl (fun k hk => say false (decide_eq_false (by omega)) hk) ?_
  refine ops_q rfl rfl (fun k hk => hk) ?_
  refine ops_g (b := false) rfl rfl rfl rfl (fun k hk => hk) ?_
  refine ops_g (v := .bool false) (b := false) rfl rfl rfl rfl (fun k hk => say false (decide_eq_false (by omega)) hk) ?_
  refine ops_q rfl rfl (fun k hk => hk) ?_
  refine ops_q rfl rfl (fun k hk => hk) ?_
  refine ops_g (b := false) rfl rfl rfl rfl (fun k hk => hk) ?_
  refine ops_g (v := .bool false) (b := false) rfl rfl rfl rfl (fun k hk => say false (decide_eq_false (by omega)) hk) ?_
  refine ops_q rfl rfl (fun k hk => hk) ?_
  refine ops_q rfl rfl (fun k hk => hk) ?_
  refine ops_g (b := false) rfl rfl rfl rfl (fun k hk => hk) ?_
  refine ops_g (v := .bool false) (b := false) rfl rfl rfl rfl (fun k hk => say false (decide_eq_false (by omega)) hk) ?_
  refine ops_q rfl rfl (fun k hk => hk) ?_
  refine ops_q rfl rfl (fun k hk => hk) ?_
  refine ops_g (b := false) rfl rfl rfl rfl (fun k hk => hk) ?_
  refine ops_g (v := .bool false) (b := false) rfl rfl rfl rfl (fun k hk => say false (decide_eq_false (by omega)) hk) ?_
  refine ops_q rfl rfl (fun k hk => hk) ?_
  refine ops_q rfl rfl (fun k hk => hk) ?_
  refine ops_g (b := false) rfl rfl rfl rfl (fun k hk => hk) ?_
  refine ops_g (v := .bool false) (b := false) rfl rfl rfl rfl (fun k hk => say false (decide_eq_false (by omega)) hk) ?_
  conv => whnf
  refine cw_false rfl (cw_skip ?_)
  refine cw_seq (cw_region rfl ?_)
  conv => whnf
  refine ⟨_, rfl, (refC wk sl id (.slice none 0 0)).toArray, fun w => by kernel_rfl, ?_⟩
  conv => whnf
  refine store_ref y1 ?_
  intro h2 w2
  have z2 := w2.size
  refine cw_ret ?_
  conv => whnf
  exact ⟨_, rfl, w2.new.all, rfl, ⟨by omega, fun b hb => by rw [w2.block b (by omega), x1.block b hb]⟩⟩
theorem rnew_no (wk sl id : Int) (hl : ¬ okLim wk sl id) (h : Heap) :
    Fx Try.prog 19 #[.int .i64 wk, .int .i64 sl, .int .i64 id] h fun u h' => u = .tuple #[.agg (refC 0 0 0 (.slice none 0 0)).toArray, .int .i64 1] ∧ ExtH h h' := by
  unfold okLim at hl
  refine fn_of 35 Try.func19 rfl (by kernel_rfl) rfl (by simp) ?_
  refine cw_seq (cw_region rfl ?_)
  conv => whnf
  intro h1 n1
  have y1 : Blk h1 h.size (refC 0 0 0 (.slice none 0 0)) 53 := n1.blk
  have x1 := n1.ext
  have z1 := n1.size
  clear n1
  conv => whnf
  refine cw_seq (cw_seq (cw_region rfl ?_))
  refine ops_q rfl rfl (fun k hk => hk) ?_
  by_cases l1 : wk < 1
  · refine ops_q (v := .bool true) rfl rfl (fun k hk => say true (decide_eq_true l1) hk) ?_
    conv => whnf
    refine cw_true rfl ?_
    refine cw_seq (cw_region rfl ?_)
    conv => whnf
    refine ⟨_, rfl, (refC 0 0 0 (.slice none 0 0)).toArray, fun w => by kernel_rfl, ?_⟩
    conv => whnf
    refine store_ref y1 ?_
    intro h2 w2
    have z2 := w2.size
    refine cw_ret ?_
    conv => whnf
    exact ⟨_, rfl, w2.new.all, rfl, ⟨by omega, fun b hb => by rw [w2.block b (by omega), x1.block b hb]⟩⟩
  refine ops_q (v := .bool false) rfl rfl (fun k hk => say false (decide_eq_false l1) hk) ?_
  refine ops_q rfl rfl (fun k hk => hk) ?_
  refine ops_g (b := false) rfl rfl rfl rfl (fun k hk => hk) ?_
  by_cases l2 : 64 < wk
  · refine ops_g (v := .bool true) (b := false) rfl rfl rfl rfl (fun k hk => say true (decide_eq_true l2) hk) ?_
    conv => whnf
    refine cw_true rfl ?_
    refine cw_seq (cw_region rfl ?_)
    conv => whnf
    refine ⟨_, rfl, (refC 0 0 0 (.slice none 0 0)).toArray, fun w => by kernel_rfl, ?_⟩
    conv => whnf
    refine store_ref y1 ?_
    intro h2 w2
    have z2 := w2.size
    refine cw_ret ?_
    conv => whnf
    exact ⟨_, rfl, w2.new.all, rfl, ⟨by omega, fun b hb => by rw [w2.block b (by omega), x1.block b hb]⟩⟩
  refine ops_g (v := .bool false) (b := false) rfl rfl rfl rfl (fun k hk => say false (decide_eq_false l2) hk) ?_
  refine ops_q rfl rfl (fun k hk => hk) ?_
  refine ops_q rfl rfl (fun k hk => hk) ?_
  refine ops_g (b := false) rfl rfl rfl rfl (fun k hk => hk) ?_
  by_cases l3 : sl < 1
  · refine ops_g (v := .bool true) (b := false) rfl rfl rfl rfl (fun k hk => say true (decide_eq_true l3) hk) ?_
    conv => whnf
    refine cw_true rfl ?_
    refine cw_seq (cw_region rfl ?_)
    conv => whnf
    refine ⟨_, rfl, (refC 0 0 0 (.slice none 0 0)).toArray, fun w => by kernel_rfl, ?_⟩
    conv => whnf
    refine store_ref y1 ?_
    intro h2 w2
    have z2 := w2.size
    refine cw_ret ?_
    conv => whnf
    exact ⟨_, rfl, w2.new.all, rfl, ⟨by omega, fun b hb => by rw [w2.block b (by omega), x1.block b hb]⟩⟩
  refine ops_g (v := .bool false) (b := false) rfl rfl rfl rfl (fun k hk => say false (decide_eq_false l3) hk) ?_
  refine ops_q rfl rfl (fun k hk => hk) ?_
  refine ops_q rfl rfl (fun k hk => hk) ?_
  refine ops_g (b := false) rfl rfl rfl rfl (fun k hk => hk) ?_
  by_cases l4 : 64 < sl
  · refine ops_g (v := .bool true) (b := false) rfl rfl rfl rfl (fun k hk => say true (decide_eq_true l4) hk) ?_
    conv => whnf
    refine cw_true rfl ?_
    refine cw_seq (cw_region rfl ?_)
    conv => whnf
    refine ⟨_, rfl, (refC 0 0 0 (.slice none 0 0)).toArray, fun w => by kernel_rfl, ?_⟩
    conv => whnf
    refine store_ref y1 ?_
    intro h2 w2
    have z2 := w2.size
    refine cw_ret ?_
    conv => whnf
    exact ⟨_, rfl, w2.new.all, rfl, ⟨by omega, fun b hb => by rw [w2.block b (by omega), x1.block b hb]⟩⟩
  refine ops_g (v := .bool false) (b := false) rfl rfl rfl rfl (fun k hk => say false (decide_eq_false l4) hk) ?_
  refine ops_q rfl rfl (fun k hk => hk) ?_
  refine ops_q rfl rfl (fun k hk => hk) ?_
  refine ops_g (b := false) rfl rfl rfl rfl (fun k hk => hk) ?_
  by_cases l5 : id < 1
  · refine ops_g (v := .bool true) (b := false) rfl rfl rfl rfl (fun k hk => say true (decide_eq_true l5) hk) ?_
    conv => whnf
    refine cw_true rfl ?_
    refine cw_seq (cw_region rfl ?_)
    conv => whnf
    refine ⟨_, rfl, (refC 0 0 0 (.slice none 0 0)).toArray, fun w => by kernel_rfl, ?_⟩
    conv => whnf
    refine store_ref y1 ?_
    intro h2 w2
    have z2 := w2.size
    refine cw_ret ?_
    conv => whnf
    exact ⟨_, rfl, w2.new.all, rfl, ⟨by omega, fun b hb => by rw [w2.block b (by omega), x1.block b hb]⟩⟩
  refine ops_g (v := .bool false) (b := false) rfl rfl rfl rfl (fun k hk => say false (decide_eq_false l5) hk) ?_
  refine ops_q rfl rfl (fun k hk => hk) ?_
  refine ops_q rfl rfl (fun k hk => hk) ?_
  refine ops_g (b := false) rfl rfl rfl rfl (fun k hk => hk) ?_
  refine ops_g (v := .bool true) (b := false) rfl rfl rfl rfl (fun k hk => say true (decide_eq_true (by omega)) hk) ?_
  conv => whnf
  refine cw_true rfl ?_
  refine cw_seq (cw_region rfl ?_)
  conv => whnf
  refine ⟨_, rfl, (refC 0 0 0 (.slice none 0 0)).toArray, fun w => by kernel_rfl, ?_⟩
  conv => whnf
  refine store_ref y1 ?_
  intro h2 w2
  have z2 := w2.size
  refine cw_ret ?_
  conv => whnf
  exact ⟨_, rfl, w2.new.all, rfl, ⟨by omega, fun b hb => by rw [w2.block b (by omega), x1.block b hb]⟩⟩
theorem rall_fn {h : Heap} {wv : Value} {wk sl id : Int} {ws : List Wk} (o : OW h wv ws) (kk : keysOk ws) (I : Inv wk sl id ws) (hs : ws.length ≤ 1000000000) :
    Fx Try.prog 53 #[.agg (refC wk sl id wv).toArray] h fun u h' => OW h' u (ws.filter shown) ∧ ExtH h h' ∧ ∀ b, ob u b → h.size ≤ b := by
  refine fn_of 28 Try.func53 rfl (by kernel_rfl) rfl (by simp) ?_
  obtain ⟨va, vc, hve, hvm⟩ := o.fix
  subst hve
  have hmax : maxLen < 9223372036854775808 := by decide
  refine cw_seq (cw_region rfl ?_)
  conv => whnf
  intro h1 n1
  have y1 : Blk h1 h.size (refC wk sl id (.slice va ws.length vc)) 53 := n1.blk
  have x1 := n1.ext
  clear n1
  conv => whnf
  refine cw_seq (cw_region rfl ?_)
  refine cw_seq (cw_seq (cw_region rfl ?_))
  refine cw_block ?_
  refine cw_loop (S := Nat × Value) (fun s => match s with | (t, lv) => [(1, .pointer (some ⟨h.size, 0, none⟩)), (3, lv), (4, .int .i64 (t : Int))])
    (fun s h' => s.1 ≤ ws.length ∧ ExtH h1 h' ∧ OW h' s.2 ((ws.take s.1).filter shown) ∧ ∀ b, ob s.2 b → h1.size ≤ b) (fun s => ws.length - s.1) (0, .slice none 0 0) ⟨rfl, rfl, rfl, trivial⟩ ⟨by show 0 ≤ _; omega, ExtH.refl _, OW.nil h1, fun b hb => (ob_nil hb).elim⟩ ?_
  rintro ⟨t, lv⟩ h2 ⟨ht, x2, o2, f2⟩
  simp only at ht o2 f2
  obtain ⟨la, lc, hle, _⟩ := (OwnS.src o2).form
  subst hle
  have y2 := x2.blk y1
  refine cw_seq (cw_seq (cw_region rfl ?_))
  conv => whnf
  refine ⟨_, y2.rd (o := 3) rfl, ?_⟩
  conv => whnf
  by_cases hlt : t < ws.length
  · refine cw_yes rfl (by show (t : Int) < _; omega) (cw_skip ?_)
    have hw : ws[t]? = some ws[t] := List.getElem?_eq_getElem hlt
    generalize ws[t] = w at hw
    have hk := keysOk_get kk hw
    have hst := I.st w (List.mem_of_getElem? hw)
    obtain ⟨g, c, hv, hr⟩ := ((o.more x1).more x2).get kk hw
    injection hv with hv1 _ hv2
    subst hv1 hv2
    have hfil : (ws.take (t + 1)).filter shown = (ws.take t).filter shown ++ (if shown w then [w] else []) := by
      rw [List.take_add_one, hw, List.filter_append]
      cases h : shown w <;> simp [h]
    have hlen : ((ws.take t).filter shown).length ≤ t := Nat.le_trans (List.length_filter_le _ _) (by rw [List.length_take]; omega)
    refine cw_seq (cw_block (cw_seq (cw_region rfl ?_)))
    conv => whnf
    refine ⟨_, y2.rd (o := 3) rfl, ?_⟩
    conv => whnf
    refine ⟨⟨by omega, by omega⟩, ?_⟩
    conv => whnf
    refine ⟨_, by have := hr 1 (.int .i64 w.st) rfl; rwa [show t * 37 + 1 = 0 + ((t : Int)).toNat * 37 + 1 by omega] at this, ?_⟩
    conv => whnf
    by_cases h6 : w.st = 6
    · have hsh : shown w = false := by
        cases hh : shown w with
        | false => rfl
        | true => rw [shown_iff, live_iff] at hh; omega
      refine cw_bne_no rfl h6 (cw_skip ?_)
      refine cw_region rfl ?_
      exact ⟨(t + 1, _), ⟨rfl, rfl, slot_i64 _ _ (by simp) (by show t + 1 < _; omega), trivial⟩, ⟨by show t + 1 ≤ _; omega, x2, by rw [hfil, hsh]; simpa using o2, f2⟩, by show ws.length - (t + 1) < ws.length - t; omega⟩
    · have hsh : shown w = true := by rw [shown_iff, live_iff]; omega
      refine cw_bne_yes rfl h6 ?_
      refine cw_region rfl ?_
      conv => whnf
      refine ⟨_, y2.rd (o := 3) rfl, ?_⟩
      conv => whnf
      refine ⟨⟨by omega, by omega⟩, ?_⟩
      conv => whnf
      refine ⟨wkC w, by rw [wkC_length hk]; rfl, by rwa [show t * 37 = 0 + ((t : Int)).toNat * 37 by omega] at hr, ?_⟩
      conv => whnf
      refine ⟨_, rfl, (wkC w).toArray, 31, fun wd => build_wk hk wd, ?_⟩
      intro h7 n7
      conv => whnf
      have x7 := n7.ext
      refine ⟨_, rfl, _, append_wk (ty := 44) (o2.more x7) (RW.of_one n7 hk) (by show ((ws.take t).filter shown).length + 1 ≤ _; omega), ?_⟩
      rintro v8 h8 ⟨o8, c8, f8⟩
      have z2 := x2.size
      have z7 := x7.size
      have z8 := c8.size
      have x8 : ExtH h1 h8 := ⟨by omega, fun b hb => by rw [c8.block b (by omega) (fun e => by have := f2 b e; omega), (x2.trans x7).block b hb]⟩
      refine cw_region rfl ?_
      exact ⟨(t + 1, v8), ⟨rfl, rfl, slot_i64 _ _ (by simp) (by show t + 1 < _; omega), trivial⟩, ⟨by show t + 1 ≤ _; omega, x8, by rw [hfil, hsh]; exact o8, fun b hb => (f8 b hb).elim (f2 b) (fun e => by omega)⟩, by show ws.length - (t + 1) < ws.length - t; omega⟩
  · refine cw_no rfl (by show ¬ (t : Int) < _; omega) (cw_exit ?_)
    have tn : t = ws.length := by omega
    subst tn
    rw [List.take_length] at o2 f2
    rw [List.take_length]
    refine cw_seq (cw_region rfl ?_)
    exact cw_ret ⟨o2, x1.trans x2, fun b hb => by have := f2 b hb; have := x1.size; omega⟩
theorem rsame_yes {h : Heap} {av bv : Value} {l : List Wk} (oa : OW h av l) (ob' : OW h bv l) (kk : keysOk l) : Fx Try.prog 52 #[av, bv] h fun u h' => u = .bool true ∧ ExtH h h' := by
  refine fn_of 26 Try.func52 rfl (by kernel_rfl) rfl (by simp) ?_
  obtain ⟨aa, ac, hae, hm⟩ := oa.fix
  obtain ⟨ba, bc, hbe, _⟩ := ob'.fix
  subst hae hbe
  have hmax : maxLen < 9223372036854775808 := by decide
  refine cw_seq (cw_region rfl ?_)
  refine cw_seq (cw_seq (cw_region rfl ?_))
  conv => whnf
  refine cw_bne_no rfl rfl (cw_skip ?_)
  refine cw_seq (cw_seq (cw_region rfl ?_))
  refine cw_block ?_
  refine cw_loop (S := Nat) (fun t => [(0, .slice aa l.length ac), (1, .slice ba l.length bc), (5, .int .i64 (t : Int))])
    (fun t h' => t ≤ l.length ∧ ExtH h h') (fun t => l.length - t) 0 ⟨rfl, rfl, rfl, trivial⟩ ⟨by omega, ExtH.refl _⟩ ?_
  rintro t h1 ⟨ht, x1⟩
  refine cw_seq (cw_seq (cw_region rfl ?_))
  conv => whnf
  by_cases hlt : t < l.length
  · refine cw_yes rfl (by show (t : Int) < _; omega) (cw_skip ?_)
    have hw : l[t]? = some l[t] := List.getElem?_eq_getElem hlt
    generalize l[t] = w at hw
    have hk := keysOk_get kk hw
    obtain ⟨g, c, hv, hr⟩ := (oa.more x1).get kk hw
    injection hv with hv1 _ hv2
    subst hv1 hv2
    obtain ⟨g', c', hv', hr'⟩ := (ob'.more x1).get kk hw
    injection hv' with hv1' _ hv2'
    subst hv1' hv2'
    refine cw_seq (cw_block (cw_seq ?_))
    refine cw_drawn (by kernel_rfl) 8 (fun _ => false) (List.range 8) (by kernel_rfl) rfl ?_
    conv => whnf
    refine ⟨⟨by omega, by omega⟩, ?_⟩
    conv => whnf
    refine ⟨wkC w, by rw [wkC_length hk]; rfl, by rwa [show t * 37 = 0 + ((t : Int)).toNat * 37 by omega] at hr, ?_⟩
    conv => whnf
    refine ⟨⟨by omega, by omega⟩, ?_⟩
    conv => whnf
    refine ⟨wkC w, by rw [wkC_length hk]; rfl, by rwa [show t * 37 = 0 + ((t : Int)).toNat * 37 by omega] at hr', ?_⟩
    conv => whnf
    intro h2 x2
    conv => whnf
    refine ⟨.bool false, fun wd => by rw [wk_ne _ _ hk hk, decide_eq_true rfl]; rfl, ?_⟩
    conv => whnf
    refine cw_false rfl (cw_skip ?_)
    refine cw_region rfl ?_
    exact ⟨t + 1, ⟨rfl, rfl, slot_i64 _ _ (by omega) (by omega), trivial⟩, ⟨by omega, x1.trans x2⟩, by omega⟩
  · refine cw_no rfl (by show ¬ (t : Int) < _; omega) (cw_exit ?_)
    refine cw_seq (cw_region rfl ?_)
    exact cw_ret ⟨rfl, x1⟩
theorem rstart_fn {h : Heap} {wv : Value} {wk sl id : Int} {ws : List Wk} (key : List UInt8) (hkey : key.length = 32) (slots : Int) (o : OW h wv ws) (kk : keysOk ws) (hs : ws.length ≤ 1000000000) :
    Fx Try.prog 40 #[.agg (refC wk sl id wv).toArray, .agg (key.map u8v).toArray, .int .i64 slots] h fun u h' => ∃ wv', u = .tuple #[.agg (refC wk sl id wv').toArray, .int .i64 (startS wk sl ws key slots).2.1, .int .i64 (startS wk sl ws key slots).2.2] ∧
      OW h' wv' (startS wk sl ws key slots).1 ∧ ExtH h h' ∧ ∀ b, ob wv' b → ob wv b ∨ h.size ≤ b := by
  refine fn_of 44 Try.func40 rfl (by kernel_rfl) rfl (by simp) ?_
  obtain ⟨va, vc, hve, hvm⟩ := o.fix
  subst hve
  have hmax : maxLen < 9223372036854775808 := by decide
  refine cw_seq (cw_region rfl ?_)
  conv => whnf
  intro h1 n1
  have y1 : Blk h1 h.size (refC wk sl id (.slice va ws.length vc)) 53 := n1.blk
  have x1 := n1.ext
  have z1 := n1.size
  clear n1
  conv => whnf
  intro h2 n2
  have yk : Blk h2 h1.size (key.map u8v) 29 := n2.blk
  have x2 := n2.ext
  have z2 := n2.size
  clear n2
  conv => whnf
  intro h3 n3
  have yr : Blk h3 h2.size (refC 0 0 0 (.slice none 0 0)) 53 := n3.blk
  have x3 := n3.ext
  have z3 := n3.size
  clear n3
  replace y1 := x3.blk (x2.blk y1)
  replace yk := x3.blk yk
  have x05 := (x1.trans x2).trans x3
  have o5 := o.more x05
  conv => whnf
  unfold startS
  have same : ∀ (h5 : Heap) (e : Int), ExtH h3 h5 → ∀ h6, Wrote h5 h6 h2.size (refC wk sl id (.slice va ws.length vc)) 53 → OW h6 (.slice va ws.length vc) ws ∧ ExtH h h6 := fun h5 e x5 h6 w6 =>
    ⟨OwnS.keep (o5.more x5) w6.chg (fun b hb e => by subst e; exact OwnS.ne (o5.more x5) (x5.blk yr) (by decide) hb), ⟨by have := x5.size; have := w6.size; omega, fun b hb => by rw [w6.block b (by omega), x5.block b (by omega), x05.block b hb]⟩⟩
  refine cw_seq (cw_seq (cw_region rfl ?_))
  by_cases hbad : slots < 1 ∨ sl < slots
  · rw [if_pos hbad]
    refine ops_q rfl rfl (fun k hk => hk) ?_
    by_cases h1' : slots < 1
    · refine ops_q (v := .bool true) rfl rfl (fun k hk => say true (decide_eq_true h1') hk) ?_
      conv => whnf
      refine cw_true rfl ?_
      refine cw_seq (cw_region rfl ?_)
      conv => whnf
      refine ⟨refC wk sl id (.slice va ws.length vc), rfl, y1.all, ?_⟩
      conv => whnf
      refine store_ref yr ?_
      intro h6 w6
      obtain ⟨o6, x6⟩ := same h3 0 (ExtH.refl _) h6 w6
      refine cw_ret ?_
      conv => whnf
      exact ⟨_, rfl, w6.new.all, _, rfl, o6, x6, fun b hb => .inl hb⟩
    · refine ops_q (v := .bool false) rfl rfl (fun k hk => say false (decide_eq_false h1') hk) ?_
      conv => whnf
      refine ⟨_, y1.rd (o := 1) rfl, ?_⟩
      conv => whnf
      refine cw_yes rfl (show sl < slots from hbad.resolve_left h1') ?_
      refine cw_seq (cw_region rfl ?_)
      conv => whnf
      refine ⟨refC wk sl id (.slice va ws.length vc), rfl, y1.all, ?_⟩
      conv => whnf
      refine store_ref yr ?_
      intro h6 w6
      obtain ⟨o6, x6⟩ := same h3 0 (ExtH.refl _) h6 w6
      refine cw_ret ?_
      conv => whnf
      exact ⟨_, rfl, w6.new.all, _, rfl, o6, x6, fun b hb => .inl hb⟩
  · rw [if_neg hbad]
    refine ops_q rfl rfl (fun k hk => hk) ?_
    refine ops_q (v := .bool false) rfl rfl (fun k hk => say false (decide_eq_false (fun e => hbad (.inl e))) hk) ?_
    conv => whnf
    refine ⟨_, y1.rd (o := 1) rfl, ?_⟩
    conv => whnf
    refine cw_no rfl (fun e => hbad (.inr e)) (cw_skip ?_)
    refine cw_seq (cw_seq ?_)
    refine cw_drawn (by kernel_rfl) 4 (fun _ => false) (List.range 4) (by kernel_rfl) rfl ?_
    conv => whnf
    refine ⟨refC wk sl id (.slice va ws.length vc), rfl, y1.all, ?_⟩
    conv => whnf
    refine ⟨_, rfl, .int .i64 (ws.countP isLive : Int), fun h4 e4 => rlive_fn (o5.more e4) kk, ?_⟩
    conv => whnf
    refine ⟨_, y1.rd (o := 0) rfl, ?_⟩
    conv => whnf
    intro h4 x4
    conv => whnf
    have z4 := x4.size
    by_cases hfull : wk ≤ (ws.countP isLive : Int)
    · rw [if_pos hfull]
      refine cw_yes rfl hfull ?_
      refine cw_seq (cw_region rfl ?_)
      conv => whnf
      refine ⟨refC wk sl id (.slice va ws.length vc), rfl, (x4.blk y1).all, ?_⟩
      conv => whnf
      refine store_ref (x4.blk yr) ?_
      intro h6 w6
      obtain ⟨o6, x6⟩ := same h4 0 x4 h6 w6
      refine cw_ret ?_
      conv => whnf
      exact ⟨_, rfl, w6.new.all, _, rfl, o6, x6, fun b hb => .inl hb⟩
    · rw [if_neg hfull]
      refine cw_no rfl hfull (cw_skip ?_)
      replace y1 := x4.blk y1
      replace yk := x4.blk yk
      replace yr := x4.blk yr
      replace o5 := o5.more x4
      replace x05 := x05.trans x4
      refine cw_seq (cw_region rfl ?_)
      conv => whnf
      refine ⟨_, y1.rd (o := 3) rfl, ?_⟩
      conv => whnf
      rw [i64_in ((ws.length : Int) + 1) (by omega) (by omega)]
      refine cw_seq (cw_region rfl ?_)
      refine cw_seq (cw_region rfl ?_)
      conv => whnf
      refine ⟨_, y1.rd (o := 3) rfl, ?_⟩
      conv => whnf
      refine ⟨_, rfl, _, append_wk (ty := 44) (OW.nil h4) o5.r (by simp; omega), ?_⟩
      rintro v6 h6 ⟨o6, c6, f6⟩
      rw [List.nil_append] at o6
      have x6 : ExtH h4 h6 := c6.ext (fun b hb => (ob_nil hb).elim)
      have f6' : ∀ b, ob v6 b → h4.size ≤ b := fun b hb => (f6 b hb).elim (fun e => (ob_nil e).elim) (fun e => e)
      have z6 := x6.size
      replace y1 := x6.blk y1
      replace yk := x6.blk yk
      replace yr := x6.blk yr
      obtain ⟨a6, c6', e6, _⟩ := o6.fix
      subst e6
      refine cw_seq (cw_region rfl ?_)
      conv => whnf
      refine ⟨key.map u8v, by simp [hkey]; rfl, yk.all, ?_⟩
      conv => whnf
      refine ⟨_, rfl, (wkC (newW ws key slots)).toArray, fun wd => rbuild_new _ _ _ hkey wd, ?_⟩
      conv => whnf
      refine ⟨_, rfl, (wkC (newW ws key slots)).toArray, 31, fun wd => build_wk hkey wd, ?_⟩
      intro h7 n7
      conv => whnf
      have x7 := n7.ext
      have z7 := x7.size
      refine ⟨_, rfl, _, append_wk (ty := 44) (o6.more x7) (RW.of_one n7 hkey) (by show ws.length + 1 ≤ _; omega), ?_⟩
      rintro v8 h8 ⟨o8, c8, f8⟩
      have z8 := c8.size
      have f8' : ∀ b, ob v8 b → h4.size ≤ b := fun b hb => (f8 b hb).elim (f6' b) (fun e => by omega)
      have c8b : ∀ b, b < h4.size → h8[b]? = h7[b]? := fun b hb => c8.block b (by omega) (fun e => by have := f6' b e; omega)
      have y1' : Blk h8 h.size (refC wk sl id (.slice va ws.length vc)) 53 := (c8b _ (by omega)).trans (x7.blk y1)
      have yr' : Blk h8 h2.size (refC 0 0 0 (.slice none 0 0)) 53 := (c8b _ (by omega)).trans (x7.blk yr)
      have x08 : ExtH h h8 := ⟨by omega, fun b hb => by rw [c8b b (by omega), x7.block b (by omega), x6.block b (by omega), x05.block b hb]⟩
      obtain ⟨a8, c8', e8, _⟩ := o8.fix
      subst e8
      conv => whnf
      refine ⟨_, _, y1', by show 3 < 4; decide, ?_⟩
      intro h9 w9
      have z9 := w9.size
      replace w9 := w9.cast (l' := refC wk sl id (.slice a8 (ws ++ [newW ws key slots]).length c8')) (by rfl)
      replace yr' := w9.blk yr' (by omega)
      have o9 := OwnS.keep o8 w9.chg (fun b hb e => by have := f8' b hb; omega)
      refine cw_seq (cw_region rfl ?_)
      conv => whnf
      refine ⟨refC wk sl id (.slice a8 (ws ++ [newW ws key slots]).length c8'), rfl, w9.new.all, ?_⟩
      conv => whnf
      refine store_ref yr' ?_
      intro h10 w10
      have z10 := w10.size
      refine cw_ret ?_
      conv => whnf
      exact ⟨_, rfl, w10.new.all, _, rfl, OwnS.keep o9 w10.chg (fun b hb e => by have := f8' b hb; omega), ⟨by omega, fun b hb => by rw [w10.block b (by omega), w9.block b (by omega), x08.block b hb]⟩, fun b hb => .inr (by have := f8' b hb; omega)⟩
end Go.Proofs.Ytcmjgkjnnmfijaa
