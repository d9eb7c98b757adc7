/-
  PoolLoads: the plain law (loads are counted), and the walk.
-/
import Derived.Test.YtcmjgkjnnmfijaaPoolShutW
namespace Go.Proofs.Ytcmjgkjnnmfijaa
open Go Vm
set_option maxRecDepth 100000
set_option linter.unusedVariables false
set_option linter.unusedSimpArgs false
set_option maxHeartbeats 1000000
def sumL : List Wk → Int
  | [] => 0
  | w :: ws => w.ld + sumL ws
theorem sumL_append : ∀ (a b : List Wk), sumL (a ++ b) = sumL a + sumL b
  | [], b => by simp [sumL]
  | w :: a, b => by
    have := sumL_append a b
    simp only [List.cons_append, sumL, this]
    omega
theorem sumL_set : ∀ (ws : List Wk) (i : Nat) (w w' : Wk), ws[i]? = some w → sumL (ws.set i w') = sumL ws - w.ld + w'.ld
  | [], i, w, w', h => by simp at h
  | x :: ws, 0, w, w', h => by
    simp at h
    subst h
    rw [List.set_cons_zero]
    simp only [sumL]
    omega
  | x :: ws, i + 1, w, w', h => by
    have := sumL_set ws i w w' (by simpa using h)
    rw [List.set_cons_succ]
    simp only [sumL, this]
    omega
theorem sumL_map (f : Wk → Wk) : ∀ (ws : List Wk), (∀ w ∈ ws, (f w).ld = w.ld) → sumL (ws.map f) = sumL ws
  | [], _ => rfl
  | w :: ws, h => by
    have h1 := h w (by simp)
    have h2 := sumL_map f ws (fun x hx => h x (by simp [hx]))
    simp only [List.map_cons, sumL, h1, h2]
theorem sumL_filter (f : Wk → Bool) : ∀ (ws : List Wk), (∀ w ∈ ws, f w = false → w.ld = 0) → sumL (ws.filter f) = sumL ws
  | [], _ => rfl
  | w :: ws, h => by
    have h2 := sumL_filter f ws (fun x hx => h x (by simp [hx]))
    rw [List.filter_cons]
    cases hf : f w with
    | true => simp only [if_true, sumL, h2]
    | false =>
      have := h w (by simp) hf
      simp only [sumL, this]
      simpa using h2
theorem sumL_le {c : Int} : ∀ (ws : List Wk), (∀ w ∈ ws, 0 ≤ w.ld ∧ w.ld ≤ 64) → 0 ≤ sumL ws ∧ sumL ws ≤ 64 * (ws.length : Int)
  | [], _ => by simp [sumL]
  | w :: ws, h => by
    have h1 := h w (by simp)
    have h2 := sumL_le (c := c) ws (fun x hx => h x (by simp [hx]))
    simp only [sumL, List.length_cons]
    omega
theorem sumL_drop (ws : List Wk) (t : Nat) (w : Wk) (hw : ws[t]? = some w) : sumL (ws.drop t) = w.ld + sumL (ws.drop (t + 1)) := by
  have hl := (List.getElem?_eq_some_iff.1 hw).1
  have e := (List.getElem?_eq_some_iff.1 hw).2
  rw [List.drop_eq_getElem_cons hl, e]
  rfl
theorem Inv.loads {wk sl id : Int} {ws : List Wk} (I : Inv wk sl id ws) : 0 ≤ sumL ws ∧ sumL ws ≤ 64 * (ws.length : Int) :=
  sumL_le (c := 0) ws (fun w hw => by
    obtain ⟨i, hi, e⟩ := List.getElem_of_mem hw
    have := I.get (i := i) (w := w) (by rw [List.getElem?_eq_getElem hi, e])
    omega)
/-- by how much a call turns the loads -/
def deltaL (d : Int) (t : Told) : Int := if t.e = 0 then (if d = 2 then 1 else if d = 3 then -1 else if d = 5 ∨ d = 6 then - t.n else 0) else 0
theorem loads_law {wk sl id : Int} {ws : List Wk} (I : Inv wk sl id ws) (o : Opv) : sumL (askS wk sl id ws o).1 = sumL ws + deltaL o.d (askS wk sl id ws o).2 := by
  refine asks_split (C := fun r => sumL r.1 = sumL ws + deltaL o.d r.2) wk sl id ws o (fun e => ?_) (fun e => ?_) (fun e => ?_) (fun e => ?_) (fun e => ?_) (fun e => ?_) (fun e => ?_) (fun e => ?_) (fun e => ?_) (fun e => ?_) (fun e => ?_) (fun e => ?_)
  · have hd : ∀ t, deltaL o.d t = 0 := fun t => by simp [deltaL, e]
    rw [hd]
    unfold startS
    repeat' split
    all_goals simp [sumL_append, sumL, newW]
  · have hd : ∀ t, deltaL o.d t = 0 := fun t => by simp [deltaL, e]
    rw [hd]
    unfold helloS
    split
    · rename_i h
      obtain ⟨i, w, hn, hw, hst⟩ := find_some h
      show sumL (upN ws o.n _) = _
      have hc := (I.ok (List.mem_of_getElem? hw)).calm (by simp at hst; omega)
      rw [upN_eq hn, sumL_set _ _ _ _ hw, hc]
      simp
    · simp
  · unfold sendS
    split
    · rename_i h
      obtain ⟨i, w, hn, hw, hst⟩ := find_some h
      split
      · simp [deltaL, e]
      · show sumL (upN ws o.n _) = _
        rw [upN_eq hn, sumL_set _ _ _ _ hw, atN_eq hn hw]
        simp [deltaL, e]
        omega
    · rename_i h
      simp [deltaL, h]
  · unfold doneS
    split
    · rename_i h
      obtain ⟨i, w, hn, hw, hst⟩ := find_some h
      have hb := (I.ok (List.mem_of_getElem? hw)).busy (by simpa using hst)
      rw [atN_eq hn hw]
      split
      · show sumL (upN ws o.n _) = _
        rw [upN_eq hn, sumL_set _ _ _ _ hw]
        simp [deltaL, e]
        omega
      · split
        · show sumL (upN ws o.n _) = _
          rw [upN_eq hn, sumL_set _ _ _ _ hw]
          simp [deltaL, e]
          omega
        · show sumL (upN ws o.n _) = _
          rw [upN_eq hn, sumL_set _ _ _ _ hw]
          simp [deltaL, e]
          omega
    · rename_i h
      simp [deltaL, h]
  · have hd : ∀ t, deltaL o.d t = 0 := fun t => by simp [deltaL, e]
    rw [hd]
    unfold drainS
    split
    · rename_i h
      obtain ⟨i, w, hn, hw, hst⟩ := find_some h
      rw [atN_eq hn hw]
      split
      · show sumL (upN ws o.n _) = _
        rw [upN_eq hn, sumL_set _ _ _ _ hw]
        simp
      · rename_i h3
        have hc := (I.ok (List.mem_of_getElem? hw)).calm (by simp at hst; omega)
        show sumL (upN ws o.n _) = _
        rw [upN_eq hn, sumL_set _ _ _ _ hw, hc]
        simp
    · simp
  · unfold endS
    split
    · rename_i h
      obtain ⟨i, w, hn, hw, hst⟩ := find_some h
      show sumL (upN ws o.n _) = _
      rw [upN_eq hn, sumL_set _ _ _ _ hw, atN_eq hn hw]
      simp [deltaL, e]
      omega
    · rename_i h
      simp [deltaL, h]
  · unfold endS
    split
    · rename_i h
      obtain ⟨i, w, hn, hw, hst⟩ := find_some h
      show sumL (upN ws o.n _) = _
      rw [upN_eq hn, sumL_set _ _ _ _ hw, atN_eq hn hw]
      simp [deltaL, e]
      omega
    · rename_i h
      simp [deltaL, h]
  · have hd : ∀ t, deltaL o.d t = 0 := fun t => by simp [deltaL, e]
    rw [hd, sumL_map _ _ (fun w hw => ?_)]
    · simp
    · unfold tickW
      have hc := I.ok hw
      split
      · split
        · exact (hc.calm (by omega)).symm
        · rfl
      · rfl
  all_goals
    have hd : ∀ t, deltaL o.d t = 0 := fun t => by
      unfold deltaL
      repeat' split
      all_goals omega
    rw [hd]
    simp
theorem loads_fn {h : Heap} {ov : Value} {os : List (Opv × Value)} (wk sl id : Int) (r : RO h ov os) :
    Fx Try.prog 6 #[.agg #[.int .i64 wk, .int .i64 sl, .int .i64 id], ov] h fun u h' => u = .bool true ∧ ExtH h h' := by
  refine fn_of 80 Try.func6 rfl (by kernel_rfl) rfl (by simp) ?_
  obtain ⟨oa, oc, hoe, hom⟩ := r.fix
  subst hoe
  have hmax : maxLen < 9223372036854775808 := by decide
  refine cw_seq (cw_region rfl ?_)
  conv => whnf
  intro ha na
  have ya : Blk ha h.size [.int .i64 wk, .int .i64 sl, .int .i64 id] 23 := na.blk
  have xa := na.ext
  have za := na.size
  clear na
  refine cw_seq (cw_region rfl ?_)
  conv => whnf
  refine ⟨_, ya.rd (o := 0) rfl, ?_⟩
  conv => whnf
  refine ⟨_, ya.rd (o := 1) rfl, ?_⟩
  conv => whnf
  refine ⟨_, ya.rd (o := 2) rfl, ?_⟩
  conv => whnf
  by_cases hl : okLim wk sl id
  · refine ⟨_, rfl, _, new_yes wk sl id hl ha, ?_⟩
    rintro _ h1 ⟨rfl, A1, x1⟩
    have hwk : 0 < wk := by have := hl.1; omega
    conv => whnf
    refine cw_seq (cw_seq (cw_region rfl ?_))
    refine cw_false rfl (cw_skip ?_)
    refine cw_seq (cw_region rfl ?_)
    refine cw_seq (cw_seq (cw_region rfl ?_))
    refine cw_block ?_
    refine cw_loop (S := Nat × Int) (fun s => match s with | (t, n) => [(1, .slice oa os.length oc), (5, .pointer (some ⟨ha.size, 0, none⟩)), (7, .int .i64 n), (8, .int .i64 (t : Int))])
      (fun s h' => s.1 ≤ os.length ∧ ∃ v ws, PoolNew h h' ha.size v wk sl id ws ∧ Inv wk sl id ws ∧ ws.length ≤ s.1 ∧ s.2 = sumL ws) (fun s => os.length - s.1) (0, 0) ⟨rfl, rfl, rfl, rfl, trivial⟩
      ⟨by show 0 ≤ _; omega, _, [], ⟨A1, xa.trans x1, by omega, fun b hb => (ob_nil hb).elim⟩, Inv.nil hl, Nat.le_refl _, rfl⟩ ?_
    clear A1 x1
    rintro ⟨t, n⟩ h5 ⟨ht, v, ws, N5, I, hlen, hn⟩
    simp only at ht hlen hn
    have hsm := r.small
    have hnb := I.loads
    refine cw_seq (cw_seq (cw_region rfl ?_))
    conv => whnf
    by_cases hlt : t < os.length
    · refine cw_yes rfl (by show (t : Int) < _; omega) (cw_skip ?_)
      have hx : os[t]? = some os[t] := List.getElem?_eq_getElem hlt
      generalize os[t] = x at hx
      obtain ⟨b, o, rfl, hr⟩ := (r.more N5.ext).get t x hx
      have hxm := List.mem_of_getElem? hx
      have hr' : ∀ {h' : Heap}, ExtH h h' → rdN h' b (o + ((t : Int)).toNat * 5) (opC x.1 x.2) := fun e => by
        obtain ⟨b', o', hbo, hr'⟩ := (r.more e).get t x hx
        injection hbo with hbo
        injection hbo with hb1 hb2
        subst hb1 hb2
        rwa [show o + t * 5 = o + ((t : Int)).toNat * 5 by omega] at hr'
      refine cw_seq (cw_block (cw_seq (cw_region rfl ?_)))
      conv => whnf
      refine ⟨⟨by omega, by omega⟩, ?_⟩
      conv => whnf
      refine ⟨opC x.1 x.2, rfl, hr' N5.ext, ?_⟩
      conv => whnf
      refine ⟨_, rfl, _, asks_fn x.1 N5.at_ I (by omega) ((r.ks x hxm).more N5.ext) (by have := r.kss x hxm; omega), ?_⟩
      rintro _ h6 ⟨v', lv, rfl, A6, t6, o6, f6⟩
      have N6 := N5.turn A6 t6
      have hlen6 := (asks_length wk sl id ws x.1).1
      have I6 := I.asks x.1
      have hlaw := loads_law I x.1
      have hwk6 : (askS wk sl id ws x.1).2.w.key.length = 32 := askS_key N5.at_.keys x.1
      generalize askS wk sl id ws x.1 = W at N6 hlen6 I6 hwk6 o6 hlaw
      have hnb6 := I6.loads
      conv => whnf
      intro h7 n7
      conv => whnf
      refine store_told n7.blk hwk6 (o6.more n7.ext) ?_
      intro h8 w8
      have z7 := n7.size
      have z8 := w8.size
      have x68 : ExtH h6 h8 := ⟨by omega, fun b hb => by rw [w8.block b (by omega), n7.block b hb]⟩
      have N8 := N6.more x68
      have rtn := w8.new.rd (o := 0) (v := .int .i64 W.2.n) rfl
      have rte := w8.new.rd (o := 40) (v := .int .i64 W.2.e) (by
        show (wkC W.2.w ++ [Value.int .i64 W.2.e])[37]? = _
        rw [List.getElem?_append_right (by rw [wkC_length hwk6]; omega), wkC_length hwk6]
        rfl)
      clear n7 w8
      have rdo : rd h8 ⟨b, o + ((t : Int)).toNat * 5, none⟩ = some (.int .i64 x.1.d) := hr' N8.ext 0 _ rfl
      refine cw_seq (cw_seq (cw_region rfl ?_))
      conv => whnf
      refine ⟨_, rte, ?_⟩
      conv => whnf
      by_cases he : W.2.e = 0
      · refine cw_bne_no rfl he (cw_skip ?_)
        refine cw_seq (cw_region rfl ?_)
        conv => whnf
        refine ⟨⟨by omega, by omega⟩, ?_⟩
        conv => whnf
        refine ⟨_, rdo, ?_⟩
        refine cw_block ?_
        refine cw_seq (cw_region rfl ?_)
        by_cases h2 : x.1.d = 2
        · have ed : deltaL x.1.d W.2 = 1 := by simp [deltaL, he, h2]
          rw [ed] at hlaw
          refine cw_beq_yes rfl h2 ?_
          refine cw_region rfl ?_
          conv => whnf
          refine cw_region rfl ?_
          exact ⟨(t + 1, n + 1), ⟨rfl, rfl, by show some (Value.int .i64 (IntKind.i64.wrap (n + 1))) = _; rw [i64_in _ (by omega) (by omega)], slot_i64 _ _ (by simp) (by show t + 1 < _; omega), trivial⟩, ⟨by show t + 1 ≤ _; omega, _, _, N8, I6, by show W.1.length ≤ t + 1; omega, by show n + 1 = _; omega⟩, by show os.length - (t + 1) < os.length - t; omega⟩
        refine cw_beq_no rfl h2 ?_
        refine cw_seq (cw_region rfl ?_)
        by_cases h3 : x.1.d = 3
        · have ed : deltaL x.1.d W.2 = -1 := by simp [deltaL, he, h3]
          rw [ed] at hlaw
          refine cw_beq_yes rfl h3 ?_
          refine cw_region rfl ?_
          conv => whnf
          refine cw_region rfl ?_
          exact ⟨(t + 1, n - 1), ⟨rfl, rfl, by show some (Value.int .i64 (IntKind.i64.wrap (n - 1))) = _; rw [i64_in _ (by omega) (by omega)], slot_i64 _ _ (by simp) (by show t + 1 < _; omega), trivial⟩, ⟨by show t + 1 ≤ _; omega, _, _, N8, I6, by show W.1.length ≤ t + 1; omega, by show n - 1 = _; omega⟩, by show os.length - (t + 1) < os.length - t; omega⟩
        refine cw_beq_no rfl h3 ?_
        refine cw_seq (cw_seq (cw_region rfl ?_))
        by_cases h5 : x.1.d = 5
        · have ed : deltaL x.1.d W.2 = - W.2.n := by simp [deltaL, he, h5]
          rw [ed] at hlaw
          refine cw_beq_yes rfl h5 (cw_skip ?_)
          refine cw_beq_yes rfl h5 ?_
          refine cw_region rfl ?_
          conv => whnf
          refine ⟨_, rtn, ?_⟩
          conv => whnf
          refine cw_region rfl ?_
          exact ⟨(t + 1, n - W.2.n), ⟨rfl, rfl, by show some (Value.int .i64 (IntKind.i64.wrap (n - W.2.n))) = _; rw [i64_in _ (by omega) (by omega)], slot_i64 _ _ (by simp) (by show t + 1 < _; omega), trivial⟩, ⟨by show t + 1 ≤ _; omega, _, _, N8, I6, by show W.1.length ≤ t + 1; omega, by show n - W.2.n = _; omega⟩, by show os.length - (t + 1) < os.length - t; omega⟩
        refine cw_beq_no rfl h5 ?_
        refine cw_region rfl ?_
        by_cases h6' : x.1.d = 6
        · have ed : deltaL x.1.d W.2 = - W.2.n := by simp [deltaL, he, h6']
          rw [ed] at hlaw
          refine cw_beq_yes rfl h6' ?_
          refine cw_region rfl ?_
          conv => whnf
          refine ⟨_, rtn, ?_⟩
          conv => whnf
          refine cw_region rfl ?_
          exact ⟨(t + 1, n - W.2.n), ⟨rfl, rfl, by show some (Value.int .i64 (IntKind.i64.wrap (n - W.2.n))) = _; rw [i64_in _ (by omega) (by omega)], slot_i64 _ _ (by simp) (by show t + 1 < _; omega), trivial⟩, ⟨by show t + 1 ≤ _; omega, _, _, N8, I6, by show W.1.length ≤ t + 1; omega, by show n - W.2.n = _; omega⟩, by show os.length - (t + 1) < os.length - t; omega⟩
        · have ed : deltaL x.1.d W.2 = 0 := by simp [deltaL, h2, h3, h5, h6']
          rw [ed] at hlaw
          refine cw_beq_no rfl h6' (cw_skip ?_)
          refine cw_region rfl ?_
          exact ⟨(t + 1, n), ⟨rfl, rfl, rfl, slot_i64 _ _ (by simp) (by show t + 1 < _; omega), trivial⟩, ⟨by show t + 1 ≤ _; omega, _, _, N8, I6, by show W.1.length ≤ t + 1; omega, by show n = _; omega⟩, by show os.length - (t + 1) < os.length - t; omega⟩
      · have ed : deltaL x.1.d W.2 = 0 := by simp [deltaL, he]
        rw [ed] at hlaw
        refine cw_bne_yes rfl he (cw_exit ?_)
        refine cw_region rfl ?_
        exact ⟨(t + 1, n), ⟨rfl, rfl, rfl, slot_i64 _ _ (by simp) (by show t + 1 < _; omega), trivial⟩, ⟨by show t + 1 ≤ _; omega, _, _, N8, I6, by show W.1.length ≤ t + 1; omega, by show n = _; omega⟩, by show os.length - (t + 1) < os.length - t; omega⟩
    · refine cw_no rfl (by show ¬ (t : Int) < _; omega) (cw_exit ?_)
      refine cw_seq (cw_region rfl ?_)
      conv => whnf
      refine ⟨_, rfl, _, all_fn N5.at_ hwk (by omega), ?_⟩
      rintro lv h6 ⟨o6, x6, f6⟩
      have N6 := N5.more x6
      have kL := keysOk_filter N5.at_.keys shown
      have hsumL : sumL (ws.filter shown) = sumL ws := sumL_filter _ _ (fun w hw hf => by
        have ho := I.ok hw
        refine ho.calm (fun e => ?_)
        have : shown w = true := by rw [shown_iff, live_iff]; omega
        rw [this] at hf
        cases hf)
      have hldL : ∀ w ∈ ws.filter shown, 0 ≤ w.ld ∧ w.ld ≤ 64 := fun w hw => by
        obtain ⟨i, hi, e⟩ := List.getElem_of_mem (List.mem_filter.1 hw).1
        have := I.get (i := i) (w := w) (by rw [List.getElem?_eq_getElem hi, e])
        omega
      have hLl : (ws.filter shown).length ≤ 10000000 := Nat.le_trans (List.length_filter_le _ _) (by omega)
      rw [hn, ← hsumL]
      clear hn hsumL
      generalize ws.filter shown = L at o6 kL hldL hLl
      obtain ⟨la, lc, hle, _⟩ := o6.fix
      subst hle
      refine cw_seq (cw_seq (cw_region rfl ?_))
      refine cw_block ?_
      refine cw_loop (S := Nat) (fun t => [(7, .int .i64 (sumL (L.drop t))), (10, .slice la L.length lc), (11, .int .i64 (t : Int))])
        (fun t h' => t ≤ L.length ∧ ExtH h6 h') (fun t => L.length - t) 0 ⟨rfl, rfl, rfl, trivial⟩ ⟨by omega, ExtH.refl _⟩ ?_
      rintro t h7 ⟨ht, x7⟩
      refine cw_seq (cw_seq (cw_region rfl ?_))
      conv => whnf
      by_cases hlt : t < L.length
      · refine cw_yes rfl (by show (t : Int) < _; omega) (cw_skip ?_)
        have hw : L[t]? = some L[t] := List.getElem?_eq_getElem hlt
        generalize L[t] = w at hw
        have hk := keysOk_get kL hw
        obtain ⟨g, c, hv, hr⟩ := (o6.more x7).get kL hw
        injection hv with hv1 _ hv2
        subst hv1 hv2
        have hd := sumL_drop L t w hw
        have hb1 := sumL_le (c := 0) (L.drop (t + 1)) (fun w hw => hldL w (List.mem_of_mem_drop hw))
        have hb2 : (L.drop (t + 1)).length ≤ 10000000 := by rw [List.length_drop]; omega
        have hb3 := hldL w (List.mem_of_getElem? hw)
        refine cw_seq (cw_block (cw_region rfl ?_))
        conv => whnf
        refine ⟨⟨by omega, by omega⟩, ?_⟩
        conv => whnf
        refine ⟨_, by have := hr 35 _ (wkC_get_ld hk); rwa [show t * 37 + 35 = 0 + ((t : Int)).toNat * 37 + 35 by omega] at this, ?_⟩
        conv => whnf
        refine cw_region rfl ?_
        exact ⟨t + 1, ⟨by show some (Value.int .i64 (IntKind.i64.wrap (sumL (L.drop t) - w.ld))) = _; rw [i64_in _ (by omega) (by omega)]; congr 2; omega, rfl, slot_i64 _ _ (by omega) (by omega), trivial⟩, ⟨by omega, x7⟩, by omega⟩
      · refine cw_no rfl (by show ¬ (t : Int) < _; omega) (cw_exit ?_)
        have tn : t = L.length := by omega
        subst tn
        rw [List.drop_length]
        refine cw_seq (cw_region rfl ?_)
        conv => whnf
        refine ⟨_, rfl, _, awake_fn h7, ?_⟩
        rintro _ h8 ⟨rfl, x8⟩
        conv => whnf
        exact cw_ret ⟨rfl, ((N6.more x7).more x8).ext⟩
  · refine ⟨_, rfl, _, new_no wk sl id hl ha, ?_⟩
    rintro _ h1 ⟨rfl, rfl⟩
    conv => whnf
    refine cw_seq (cw_seq (cw_region rfl ?_))
    refine cw_true rfl ?_
    refine cw_seq (cw_region rfl ?_)
    conv => whnf
    refine ⟨_, rfl, _, awake_fn h1, ?_⟩
    rintro _ h2 ⟨rfl, x2⟩
    exact cw_ret ⟨rfl, xa.trans x2⟩
end Go.Proofs.Ytcmjgkjnnmfijaa
