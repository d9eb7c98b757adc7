/-
  The document's pool: Tick.
-/
import Derived.Test.YtcmjgkjnnmfijaaPoolRef3
namespace Go.Proofs.Ytcmjgkjnnmfijaa
open Go Vm
set_option maxRecDepth 100000
set_option linter.unusedVariables false
set_option linter.unusedSimpArgs false
set_option maxHeartbeats 1000000
theorem tick_keys {id : Int} {ws : List Wk} (kk : keysOk ws) (t : Nat) : keysOk ((ws.take t).map (tickW id) ++ ws.drop t) := fun x hx => by
  rcases List.mem_append.1 hx with h | h
  · obtain ⟨w, hw, rfl⟩ := List.mem_map.1 h
    have : (tickW id w).key = w.key := by
      unfold tickW
      split
      · split <;> rfl
      · rfl
    rw [this]
    exact kk w (List.mem_of_mem_take hw)
  · exact kk x (List.mem_of_mem_drop h)
theorem rtick_fn {h : Heap} {wv : Value} {wk sl id : Int} {ws : List Wk} (o : OW h wv ws) (kk : keysOk ws) (I : Inv wk sl id ws) (hs : ws.length ≤ 1000000000) :
    Fx Try.prog 47 #[.agg (refC wk sl id wv).toArray] h fun u h' => ∃ wv' lv, u = .tuple #[.agg (refC wk sl id wv').toArray, lv] ∧ OW h' wv' (ws.map (tickW id)) ∧ OI h' lv (tickOut id ws) ∧ ExtH h h' ∧ (∀ b, ob wv' b → ob wv b ∨ h.size ≤ b) ∧ ∀ b, ob lv b → h.size ≤ b := by
  refine fn_of 43 Try.func47 rfl (by kernel_rfl) rfl (by simp) ?_
  obtain ⟨va, vc, hve, hvm⟩ := o.fix
  subst hve
  have hmax : maxLen < 9223372036854775808 := by decide
  have hlim := I.lim
  unfold okLim at hlim
  refine cw_seq (cw_region rfl ?_)
  conv => whnf
  intro h1 n1
  have y1 : Blk h1 h.size (refC wk sl id (.slice va ws.length vc)) 53 := n1.blk
  have x1 := n1.ext
  have z1 := n1.size
  clear n1
  conv => whnf
  intro h2 n2
  have yr : Blk h2 h1.size (refC 0 0 0 (.slice none 0 0)) 53 := n2.blk
  have x2 := n2.ext
  have z2 := n2.size
  clear n2
  replace y1 := x2.blk y1
  have o2 := (o.more x1).more x2
  conv => whnf
  refine cw_seq (cw_region rfl ?_)
  refine cw_seq (cw_seq (cw_region rfl ?_))
  refine cw_block ?_
  refine cw_loop (S := Nat × Value) (fun s => match s with | (t, lv) => [(1, .pointer (some ⟨h.size, 0, none⟩)), (2, .pointer (some ⟨h1.size, 0, none⟩)), (4, lv), (5, .int .i64 (t : Int))])
    (fun s h' => s.1 ≤ ws.length ∧ h2.size ≤ h'.size ∧ ExtH h h' ∧ (∃ a c, Blk h' h.size (refC wk sl id (.slice a ws.length c)) 53 ∧ OW h' (.slice a ws.length c) ((ws.take s.1).map (tickW id) ++ ws.drop s.1) ∧ ∀ b, ob (.slice a ws.length c) b → ob (.slice va ws.length vc) b ∨ h2.size ≤ b) ∧
      Blk h' h1.size (refC 0 0 0 (.slice none 0 0)) 53 ∧ OI h' s.2 (tickOut id (ws.take s.1)) ∧ ∀ b, ob s.2 b → h2.size ≤ b) (fun s => ws.length - s.1) (0, .slice none 0 0) ⟨rfl, rfl, rfl, rfl, trivial⟩
    ⟨by show 0 ≤ _; omega, Nat.le_refl _, x1.trans x2, ⟨va, vc, y1, by simpa using o2, fun b hb => .inl hb⟩, yr, OI.nil h2, fun b hb => (ob_nil hb).elim⟩ ?_
  have z12 : h.size + 2 = h2.size := by omega
  have zh1 : h1.size = h.size + 1 := z1
  clear o2 y1 yr x1 x2
  rintro ⟨t, lv⟩ h3 ⟨ht, z3, x3, ⟨a, c, y3, o3, f3⟩, yr3, l3, g3⟩
  simp only at ht o3 l3 g3
  obtain ⟨la, lc, hle, _⟩ := (OwnS.src l3).form
  subst hle
  refine cw_seq (cw_seq (cw_region rfl ?_))
  conv => whnf
  refine ⟨_, y3.rd (o := 3) rfl, ?_⟩
  conv => whnf
  by_cases hlt : t < ws.length
  · refine cw_yes rfl (by show (t : Int) < _; omega) (cw_skip ?_)
    have hw0 : ws[t]? = some ws[t] := List.getElem?_eq_getElem hlt
    generalize ws[t] = w at hw0
    have hw := tick_at (tickW id) ws t w hw0
    have hid := I.get hw0
    have hok := I.ok (List.mem_of_getElem? hw0)
    have hnum := I.num t w hw0
    have hL := tick_len (tickW id) ws t ht
    have hstep := tick_step (tickW id) ws t w hw0
    have kkt := tick_keys (id := id) kk t
    have hk := keysOk_get kk hw0
    have hout : tickOut id (ws.take (t + 1)) = tickOut id (ws.take t) ++ (if tickB id w then [w.n] else []) := by
      unfold tickOut
      rw [List.take_add_one, hw0, List.filter_append]
      cases h : tickB id w <;> simp [h]
    have hol : (tickOut id (ws.take t)).length ≤ t := by
      unfold tickOut
      rw [List.length_map]
      exact Nat.le_trans (List.length_filter_le _ _) (by rw [List.length_take]; omega)
    generalize hW : (ws.take t).map (tickW id) ++ ws.drop t = W at o3 hw hL hstep kkt
    obtain ⟨g, c', hv, hr⟩ := o3.get kkt hw
    injection hv with hv1 _ hv2
    subst hv1 hv2
    have et : t * 37 = 0 + ((t : Int)).toNat * 37 := by omega
    have lo3 : ∀ b, ob (.slice (some ⟨g, 0, none⟩) ws.length c) b → b < h3.size := fun b hb => OwnS.lt o3 hb
    have ll3 : ∀ b, ob (.slice la (tickOut id (ws.take t)).length lc) b → b < h3.size := fun b hb => OwnS.lt l3 hb
    refine cw_seq (cw_block (cw_seq (cw_region rfl ?_)))
    conv => whnf
    refine ⟨_, y3.rd (o := 3) rfl, ?_⟩
    conv => whnf
    refine ⟨⟨by omega, by show (t : Int) < ((ws.length : Nat) : Int); omega⟩, ?_⟩
    conv => whnf
    refine ⟨wkC w, by rw [wkC_length hk]; rfl, by rwa [et] at hr, ?_⟩
    conv => whnf
    intro h4 n4
    conv => whnf
    refine store_wk (a := zeroW) n4.blk zeroW_key hk ?_
    intro h5 w5
    have z4 := n4.size
    have z5 := w5.size
    have x35 : ExtH h3 h5 := ⟨by omega, fun b hb => by rw [w5.block b (by omega), n4.block b hb]⟩
    have y5 := w5.new
    clear n4 w5
    replace y3 := x35.blk y3
    replace yr3 := x35.blk yr3
    replace o3 := o3.more x35
    replace l3 := l3.more x35
    have x05 := x3.trans x35
    refine cw_seq (cw_seq (cw_region rfl ?_))
    conv => whnf
    refine ⟨_, y5.rd (o := 1) rfl, ?_⟩
    conv => whnf
    by_cases hst : w.st = 2
    · refine cw_bne_no rfl hst (cw_skip ?_)
      refine cw_seq (cw_region rfl ?_)
      conv => whnf
      refine ⟨_, y5.rd (wkC_get_id hk), ?_⟩
      conv => whnf
      rw [i64_in (w.id + 1) (by omega) (by omega)]
      refine ⟨_, _, y5, by show 36 < (wkC _).length; exact Nat.lt_of_lt_of_eq (show 36 < 37 by decide) (wkC_length (by exact hk)).symm, ?_⟩
      intro h6 w6
      replace w6 := w6.cast (l' := wkC { w with id := w.id + 1 }) (wkC_id hk (w.id + 1))
      have z6 := w6.size
      have y6 := w6.new
      replace y3 := w6.blk y3 (by omega)
      replace yr3 := w6.blk yr3 (by omega)
      replace o3 := OwnS.keep o3 w6.chg (fun b hb e => by have := lo3 b hb; omega)
      replace l3 := OI.keep l3 w6.chg (fun b hb e => by have := ll3 b hb; omega)
      refine cw_seq (cw_seq (cw_region rfl ?_))
      conv => whnf
      refine ⟨_, y6.rd (wkC_get_id (w := { w with id := w.id + 1 }) hk), ?_⟩
      conv => whnf
      refine ⟨_, y3.rd (o := 2) rfl, ?_⟩
      conv => whnf
      by_cases hdie : id ≤ w.id + 1
      · have hc := hok.calm (by omega)
        have hw2 : W.set t { w with st := 6, id := 0 } = W.set t (tickW id w) := by
          congr 1
          unfold tickW
          rw [if_pos hst, if_pos hdie]
          show (⟨w.n, 6, w.sl, w.key, w.ld, 0⟩ : Wk) = ⟨w.n, 6, w.sl, w.key, 0, 0⟩
          rw [hc]
        have eb : tickB id w = true := by simp [tickB, hst, hdie]
        rw [eb, if_pos rfl] at hout
        refine cw_yes rfl hdie ?_
        refine cw_seq (cw_region rfl ?_)
        conv => whnf
        refine ⟨_, _, y6, by show 1 < (wkC _).length; exact Nat.lt_of_lt_of_eq (show 1 < 37 by decide) (wkC_length (by exact hk)).symm, ?_⟩
        intro h7 w7
        replace w7 := w7.cast (l' := wkC { w with st := 6, id := w.id + 1 }) (wkC_st { w with id := w.id + 1 } 6)
        have z7 := w7.size
        have y7 := w7.new
        replace y3 := w7.blk y3 (by omega)
        replace yr3 := w7.blk yr3 (by omega)
        replace o3 := OwnS.keep o3 w7.chg (fun b hb e => by have := lo3 b hb; omega)
        replace l3 := OI.keep l3 w7.chg (fun b hb e => by have := ll3 b hb; omega)
        conv => whnf
        refine ⟨_, _, y7, by show 36 < (wkC _).length; exact Nat.lt_of_lt_of_eq (show 36 < 37 by decide) (wkC_length (by exact hk)).symm, ?_⟩
        intro h8 w8
        replace w8 := w8.cast (l' := wkC { w with st := 6, id := 0 }) (wkC_id (w := { w with st := 6, id := w.id + 1 }) hk 0)
        have z8 := w8.size
        have y8 := w8.new
        replace y3 := w8.blk y3 (by omega)
        replace yr3 := w8.blk yr3 (by omega)
        replace o3 := OwnS.keep o3 w8.chg (fun b hb e => by have := lo3 b hb; omega)
        replace l3 := OI.keep l3 w8.chg (fun b hb e => by have := ll3 b hb; omega)
        refine cw_region rfl ?_
        conv => whnf
        refine ⟨_, y8.rd (o := 0) (v := .int .i64 w.n) rfl, ?_⟩
        conv => whnf
        refine ⟨_, rfl, #[.int .i64 w.n], 3, fun w => by kernel_rfl, ?_⟩
        intro h9 n9
        conv => whnf
        have x9 := n9.ext
        have z9 := n9.size
        refine ⟨_, rfl, _, append_i (ty := 35) (l3.more x9) (RI.of_newed n9 (l := [w.n]) rfl rfl (by show 1 ≤ maxLen; decide)) (by show (tickOut id (ws.take t)).length + 1 ≤ _; omega), ?_⟩
        rintro v10 h10 ⟨l10, c10, f10⟩
        have z10 := c10.size
        have g10 : ∀ b, ob v10 b → h2.size ≤ b := fun b hb => (f10 b hb).elim (g3 b) (fun e => by omega)
        have keep : ∀ b, b < h2.size → h10[b]? = h9[b]? := fun b hb => c10.block b (by omega) (fun e => by have := g3 b e; omega)
        replace o3 : OW h10 (.slice (some ⟨g, 0, none⟩) ws.length c) W := OwnS.keep (OwnS.more o3 x9) c10 (fun b hb e => own_apart (OwnS.more o3 x9) (l3.more x9) (by decide) hb e)
        replace y3 : Blk h10 h.size (refC wk sl id (.slice (some ⟨g, 0, none⟩) ws.length c)) 53 := (keep _ (by omega)).trans (x9.blk y3)
        replace yr3 : Blk h10 h1.size (refC 0 0 0 (.slice none 0 0)) 53 := (keep _ (by omega)).trans (x9.blk yr3)
        have y10 : Blk h10 h3.size (wkC { w with st := 6, id := 0 }) 31 := c10.blk (x9.blk y8) (fun e => by have := ll3 _ e; omega)
        refine cw_region rfl ?_
        conv => whnf
        refine ⟨refC wk sl id (.slice (some ⟨g, 0, none⟩) ws.length c), rfl, y3.all, ?_⟩
        conv => whnf
        refine ⟨wkC { w with st := 6, id := 0 }, (wkC_length (w := { w with st := 6, id := 0 }) hk).trans rfl, y10.all, ?_⟩
        conv => whnf
        have o3' : OW _ (.slice (some ⟨g, 0, none⟩) ws.length c) W := o3
        refine ⟨_, rfl, _, rwith_fn (w := { w with st := 6, id := 0 }) o3' kkt (by omega) hw hk hnum, ?_⟩
        rintro _ h20 ⟨wv', rfl, o20, x20, f20⟩
        rw [hw2, hstep] at o20
        have z20 := x20.size
        obtain ⟨a20, c20, e20, _⟩ := OW.fix o20
        rw [tick_len (tickW id) ws (t + 1) (by omega)] at e20
        subst e20
        conv => whnf
        refine store_ref (x20.blk y3) ?_
        intro h21 w21
        have z21 := w21.size
        refine cw_region rfl ?_
        exact ⟨(t + 1, v10), ⟨rfl, rfl, rfl, slot_i64 _ _ (by simp) (by show t + 1 < _; omega), trivial⟩,
          ⟨by show t + 1 ≤ _; omega, by omega, ⟨by omega, fun b hb => by rw [w21.block b (by omega), x20.block b (by omega), keep b (by omega), x9.block b (by omega), w8.block b (by omega), w7.block b (by omega), w6.block b (by omega), x05.block b hb]⟩, ⟨_, _, w21.new, OwnS.keep o20 w21.chg (fun b hb e => by have := f20 b hb; omega), fun b hb => .inr (by have := f20 b hb; omega)⟩,
           w21.blk (x20.blk yr3) (by omega), by rw [hout]; exact OI.keep (l10.more x20) w21.chg (fun b hb e => by have := g10 b hb; omega), g10⟩, by show ws.length - (t + 1) < ws.length - t; omega⟩
      · have hw2 : W.set t { w with id := w.id + 1 } = W.set t (tickW id w) := by
          congr 1
          unfold tickW
          rw [if_pos hst, if_neg hdie]
        have eb : tickB id w = false := by simp [tickB, hst, hdie]
        rw [eb, if_neg (by decide), List.append_nil] at hout
        refine cw_no rfl hdie (cw_skip ?_)
        refine cw_region rfl ?_
        conv => whnf
        refine ⟨refC wk sl id (.slice (some ⟨g, 0, none⟩) ws.length c), rfl, y3.all, ?_⟩
        conv => whnf
        refine ⟨wkC { w with id := w.id + 1 }, (wkC_length (w := { w with id := w.id + 1 }) hk).trans rfl, y6.all, ?_⟩
        conv => whnf
        have o3' : OW _ (.slice (some ⟨g, 0, none⟩) ws.length c) W := o3
        refine ⟨_, rfl, _, rwith_fn (w := { w with id := w.id + 1 }) o3' kkt (by omega) hw hk hnum, ?_⟩
        rintro _ h20 ⟨wv', rfl, o20, x20, f20⟩
        rw [hw2, hstep] at o20
        have z20 := x20.size
        obtain ⟨a20, c20, e20, _⟩ := OW.fix o20
        rw [tick_len (tickW id) ws (t + 1) (by omega)] at e20
        subst e20
        conv => whnf
        refine store_ref (x20.blk y3) ?_
        intro h21 w21
        have z21 := w21.size
        refine cw_region rfl ?_
        exact ⟨(t + 1, _), ⟨rfl, rfl, rfl, slot_i64 _ _ (by simp) (by show t + 1 < _; omega), trivial⟩,
          ⟨by show t + 1 ≤ _; omega, by omega, ⟨by omega, fun b hb => by rw [w21.block b (by omega), x20.block b (by omega), w6.block b (by omega), x05.block b hb]⟩, ⟨_, _, w21.new, OwnS.keep o20 w21.chg (fun b hb e => by have := f20 b hb; omega), fun b hb => .inr (by have := f20 b hb; omega)⟩,
           w21.blk (x20.blk yr3) (by omega), by rw [hout]; exact OI.keep (l3.more x20) w21.chg (fun b hb e => by have := g3 b hb; omega), g3⟩, by show ws.length - (t + 1) < ws.length - t; omega⟩
    · have ef : tickW id w = w := by simp [tickW, hst]
      have eb : tickB id w = false := by simp [tickB, hst]
      rw [eb, if_neg (by decide), List.append_nil] at hout
      rw [ef] at hstep
      have eW : W.set t w = W := by
        apply List.ext_getElem?
        intro i
        rw [List.getElem?_set]
        split
        · rename_i e; subst e; rw [if_pos (by omega), hw]
        · rfl
      rw [eW] at hstep
      rw [hstep] at o3
      refine cw_bne_yes rfl hst (cw_exit ?_)
      refine cw_region rfl ?_
      exact ⟨(t + 1, _), ⟨rfl, rfl, rfl, slot_i64 _ _ (by simp) (by show t + 1 < _; omega), trivial⟩,
        ⟨by show t + 1 ≤ _; omega, by omega, x05, ⟨_, _, y3, o3, f3⟩, yr3, by rw [hout]; exact l3, g3⟩, by show ws.length - (t + 1) < ws.length - t; omega⟩
  · refine cw_no rfl (by show ¬ (t : Int) < _; omega) (cw_exit ?_)
    have tn : t = ws.length := by omega
    subst tn
    rw [List.take_length] at l3 g3 o3
    rw [List.drop_length, List.append_nil] at o3
    rw [List.take_length]
    refine cw_seq (cw_region rfl ?_)
    conv => whnf
    refine ⟨refC wk sl id (.slice a ws.length c), rfl, y3.all, ?_⟩
    conv => whnf
    refine store_ref yr3 ?_
    intro h4 w4
    have z4 := w4.size
    refine cw_ret ?_
    conv => whnf
    exact ⟨_, rfl, w4.new.all, _, _, rfl, OwnS.keep o3 w4.chg (fun b hb e => by subst e; exact OwnS.ne o3 yr3 (by decide) hb), OI.keep l3 w4.chg (fun b hb e => by have := g3 b hb; omega), ⟨by have := x3.size; omega, fun b hb => by rw [w4.block b (by omega), x3.block b hb]⟩, fun b hb => (f3 b hb).imp (fun e => e) (fun e => by omega), fun b hb => by have := g3 b hb; omega⟩
end Go.Proofs.Ytcmjgkjnnmfijaa
