/-
  PoolBounds.
-/
import Derived.Test.YtcmjgkjnnmfijaaPoolLived
import Derived.Test.YtcmjgkjnnmfijaaVmSkip
namespace Go.Proofs.Ytcmjgkjnnmfijaa
open Go Vm
set_option maxRecDepth 100000
set_option linter.unusedVariables false
set_option maxHeartbeats 4000000
theorem say_eq {k : Value → Prop} {a b : Int} (h : a = b) (hk : k (.bool true)) : k (.bool (a == b)) := by rw [int_eq_true h]; exact hk
theorem say_eq_no {k : Value → Prop} {a b : Int} (h : a ≠ b) (hk : k (.bool false)) : k (.bool (a == b)) := by rw [int_eq_false h]; exact hk
theorem say_ne {k : Value → Prop} {a b : Int} (h : a ≠ b) (hk : k (.bool true)) : k (.bool (a != b)) := by rw [bne, int_eq_false h]; exact hk
theorem say_ne_no {k : Value → Prop} {a b : Int} (h : a = b) (hk : k (.bool false)) : k (.bool (a != b)) := by rw [bne, int_eq_true h]; exact hk
theorem OW.get {h : Heap} {v : Value} {l : List Wk} (o : OW h v l) (hk : keysOk l) {t : Nat} {w : Wk} (hw : l[t]? = some w) : ∃ g c, v = .slice (some ⟨g, 0, none⟩) l.length c ∧ rdN h g (t * 37) (wkC w) := by
  have hlt := (List.getElem?_eq_some_iff.1 hw).1
  rcases o.2 with ⟨rfl, h0⟩ | ⟨g, c, tl, rfl, hb, h1, h2, h3⟩
  · omega
  · exact ⟨g, c, rfl, fun k u hu => hb.rd (cellsW_at hk hw tl k u hu)⟩
theorem OW.fix {h : Heap} {v : Value} {l : List Wk} (o : OW h v l) : ∃ a c, v = .slice a l.length c ∧ l.length ≤ maxLen := by
  obtain ⟨a, c, e, h1, h2⟩ := Src.form (OwnS.src o)
  exact ⟨a, c, e, by omega⟩
theorem keysOk_filter {ws : List Wk} (h : keysOk ws) (f : Wk → Bool) : keysOk (ws.filter f) := fun w hw => h w (List.mem_filter.1 hw).1
theorem num_pair {ws : List Wk} (hn : ∀ (i : Nat) (w : Wk), ws[i]? = some w → w.n = (i : Int) + 1) : ws.Pairwise (fun a b => a.n < b.n) := by
  rw [List.pairwise_iff_getElem]
  intro i j hi hj hij
  rw [hn i ws[i] (List.getElem?_eq_getElem hi), hn j ws[j] (List.getElem?_eq_getElem hj)]
  omega
theorem shown_iff (w : Wk) : shown w = true ↔ isLive w = true ∨ w.st = 5 := by simp [shown]
/-- what PoolBounds looks at -/
theorem bounds_law {wk sl id : Int} {ws : List Wk} (I : Inv wk sl id ws) {t : Nat} {w : Wk} (hw : (ws.filter shown)[t]? = some w) :
    OkW sl id w ∧ 1 ≤ w.st ∧ w.st ≤ 5 ∧ 1 ≤ w.n ∧ (isLive w = true ↔ w.st ≠ 5) ∧ (∀ s w', t = s + 1 → (ws.filter shown)[s]? = some w' → w'.n < w.n) := by
  obtain ⟨hm, hsh⟩ := List.mem_filter.1 (List.mem_of_getElem? hw)
  have ho := I.ok hm
  rw [shown_iff, live_iff] at hsh
  refine ⟨ho, ho.st.1, by omega, ?_, by rw [live_iff]; omega, fun s w' hs hw' => ?_⟩
  · obtain ⟨i, hi, e⟩ := List.getElem_of_mem hm
    have := I.num i w (by rw [List.getElem?_eq_getElem hi, e])
    omega
  · subst hs
    have hp := (num_pair I.num).filter shown
    rw [List.pairwise_iff_getElem] at hp
    obtain ⟨h1, e1⟩ := List.getElem?_eq_some_iff.1 hw
    obtain ⟨h2, e2⟩ := List.getElem?_eq_some_iff.1 hw'
    have := hp s (s + 1) h2 h1 (by omega)
    rwa [e1, e2] at this
theorem count_live (ws : List Wk) : (ws.filter shown).countP isLive = ws.countP isLive := by
  rw [List.countP_filter]
  apply List.countP_congr
  intro w _
  simp only [Bool.and_eq_true, shown_iff]
  exact ⟨fun h => h.1, fun h => ⟨h, .inl h⟩⟩
theorem count_take (f : Wk → Bool) (l : List Wk) (t : Nat) (w : Wk) (hw : l[t]? = some w) : (l.take (t + 1)).countP f = (l.take t).countP f + (if f w then 1 else 0) := by
  rw [List.take_add_one, hw, List.countP_append]
  cases h : f w <;> simp [h]
theorem bounds_fn {h : Heap} {ov : Value} {os : List (Opv × Value)} (wk sl id : Int) (r : RO h ov os) :
    Fx Try.prog 4 #[.agg #[.int .i64 wk, .int .i64 sl, .int .i64 id], ov] h fun u h' => u = .bool true ∧ ExtH h h' := by
  refine fn_of 139 Try.func4 rfl (by kernel_rfl) rfl (by simp) ?_
  obtain ⟨oa, oc, hoe, hom⟩ := r.fix
  subst hoe
  have hmax : maxLen < 9223372036854775808 := by decide
  refine cw_seq (cw_region rfl ?_)
  conv => whnf
  intro ha na
  have ya : Blk ha h.size [.int .i64 wk, .int .i64 sl, .int .i64 id] 23 := na.blk
  have xa := na.ext
  have za := na.size
  clear na
  refine cw_seq (cw_region rfl ?_)
  conv => whnf
  refine ⟨[.int .i64 wk, .int .i64 sl, .int .i64 id], rfl, ya.all, ?_⟩
  conv => whnf
  by_cases hl : okLim wk sl id
  · refine ⟨_, rfl, _, lived_yes wk sl id hl (r.more xa), ?_⟩
    rintro _ h1 ⟨p, v, rfl, N1⟩
    have I := (Inv.nil hl).lived (ops1 os)
    have hlen := lived_length wk sl id [] (ops1 os)
    have hlen2 : (ops1 os).length ≤ 10000000 := by unfold ops1; rw [List.length_map]; exact r.small
    generalize livedS wk sl id [] (ops1 os) = ws at N1 I hlen
    simp only [List.length_nil] at hlen
    have hwk : 0 < wk := by have := I.lim.1; omega
    conv => whnf
    refine cw_seq (cw_seq (cw_region rfl ?_))
    conv => whnf
    refine ⟨.bool false, fun w => by kernel_rfl, ?_⟩
    refine cw_false rfl (cw_skip ?_)
    refine cw_seq (cw_region rfl ?_)
    conv => whnf
    refine ⟨_, rfl, _, all_fn N1.at_ hwk (by omega), ?_⟩
    rintro lv h2 ⟨o2, x2, f2⟩
    have kL := keysOk_filter N1.at_.keys shown
    have law := fun t w (hw : (ws.filter shown)[t]? = some w) => bounds_law I hw
    have hcl := count_live ws
    have hLl : (ws.filter shown).length ≤ 10000000 := Nat.le_trans (List.length_filter_le _ _) (by omega)
    generalize ws.filter shown = L at o2 kL law hcl hLl
    have N2 := N1.more x2
    obtain ⟨la, lc, hle, _⟩ := o2.fix
    subst hle
    have y2 := x2.blk (N1.ext.blk ya)
    refine cw_seq (cw_region rfl ?_)
    refine cw_seq (cw_seq (cw_region rfl ?_))
    refine cw_block ?_
    refine cw_loop (S := Nat) (fun t => [(2, .pointer (some ⟨h.size, 0, none⟩)), (5, .pointer (some ⟨p, 0, none⟩)), (6, .slice la L.length lc), (7, .int .i64 ((L.take t).countP isLive : Int)), (8, .int .i64 (t : Int))])
      (fun t h' => t ≤ L.length ∧ ExtH h2 h') (fun t => L.length - t) 0 ⟨rfl, rfl, rfl, rfl, rfl, trivial⟩ ⟨by omega, ExtH.refl _⟩ ?_
    rintro t h3 ⟨ht, x3⟩
    have y3 := x3.blk y2
    have o3 := o2.more x3
    refine cw_seq (cw_seq (cw_region rfl ?_))
    conv => whnf
    by_cases hlt : t < L.length
    · refine cw_yes rfl (by show (t : Int) < _; omega) (cw_skip ?_)
      have hw : L[t]? = some L[t] := List.getElem?_eq_getElem hlt
      generalize L[t] = w at hw
      obtain ⟨hok, w1, w2, w3, w4, w5⟩ := law t w hw
      have hk := keysOk_get kL hw
      obtain ⟨g, c, hv, hr⟩ := o3.get kL hw
      injection hv with hv1 _ hv2
      subst hv1 hv2
      have hcount := count_take isLive L t w hw
      have hcle : (L.take t).countP isLive ≤ t := Nat.le_trans List.countP_le_length (by rw [List.length_take]; omega)
      refine cw_seq (cw_block (cw_seq (cw_region rfl ?_)))
      conv => whnf
      refine ⟨⟨by omega, by omega⟩, ?_⟩
      conv => whnf
      refine ⟨wkC w, by rw [wkC_length hk]; rfl, by rwa [show t * 37 = 0 + ((t : Int)).toNat * 37 by omega] at hr, ?_⟩
      conv => whnf
      intro h4 n4
      conv => whnf
      refine store_wk (a := zeroW) n4.blk zeroW_key hk ?_
      intro h5 w5'
      have z3 := x3.size; have z4 := n4.size; have z5 := w5'.size
      have x35 : ExtH h3 h5 := ⟨by omega, fun b hb => by rw [w5'.block b (by omega), n4.block b (by omega)]⟩
      have y5 := w5'.new
      have g5 := x35.blk y3
      have o5 := o3.more x35
      clear n4 w5'
      have rst := y5.rd (o := 1) (v := .int .i64 w.st) rfl
      have rsl := y5.rd (o := 2) (v := .int .i64 w.sl) rfl
      have rn := y5.rd (o := 0) (v := .int .i64 w.n) rfl
      have rld := y5.rd (wkC_get_ld hk)
      have rid := y5.rd (wkC_get_id hk)
      have gwk := g5.rd (o := 0) (v := .int .i64 wk) rfl
      have gsl := g5.rd (o := 1) (v := .int .i64 sl) rfl
      have gid := g5.rd (o := 2) (v := .int .i64 id) rfl
      have hsl := hok.sl
      have hidl := hok.idle
      --MID
      refine cw_seq (cw_region rfl ?_)
      by_cases h3 : w.st = 3
      · have hst : w.st = 3 ∨ w.st = 4 := .inl h3
        refine ops_q rfl rfl (fun k hk => hk) ?_
        refine ops_q rfl rfl (fun k hk => ⟨_, rst, hk⟩) ?_
        refine ops_q (v := .bool true) rfl rfl (fun k hk => say_eq h3 hk) ?_
        refine ops_q rfl rfl (fun k hk => hk) ?_
        refine ops_skip (b := false) rfl rfl rfl ?_
        refine ops_skip (b := false) rfl rfl rfl ?_
        refine ops_skip (b := false) rfl rfl rfl ?_
        refine ops_q rfl rfl (fun k hk => hk) ?_
        refine ops_q rfl rfl (fun k hk => hk) ?_
        refine cw_seq (cw_seq ?_)
        refine cw_drawn (by kernel_rfl) 39 (fun _ => false) [0, 1, 2, 3, 4, 5, 6, 7, 8, 9, 10, 11, 12, 13, 14, 15, 16, 17, 18, 19, 20, 21, 22, 23, 24, 25, 26, 27, 28, 29, 30, 31, 32, 33, 34, 35, 36, 37, 38] (by kernel_rfl) rfl ?_
        by_cases ht0 : 0 < (t : Int)
        · obtain ⟨s, hs⟩ : ∃ s, t = s + 1 := ⟨t - 1, by omega⟩
          have hw2 : L[s]? = some L[s] := List.getElem?_eq_getElem (by omega)
          generalize L[s] = w2 at hw2
          have hless := w5 s w2 hs hw2
          obtain ⟨g2, c2, hv2, hr2⟩ := o5.get kL hw2
          injection hv2 with hv21 _ hv22
          injection hv21 with hv21
          injection hv21 with hv21
          subst hv21
          have es : IntKind.i64.wrap ((t : Int) - 1) = (s : Int) := by rw [i64_in _ (by omega) (by omega)]; omega
          refine head_q rfl rfl rfl rfl (fun k hk => hk) ?_
          refine head_q rfl rfl rfl rfl (fun k hk => ⟨_, rst, hk⟩) ?_
          refine head_q (v := .bool false) rfl rfl rfl rfl (fun k hk => say false (decide_eq_false (by omega)) hk) ?_
          refine head_q rfl rfl rfl rfl (fun k hk => hk) ?_
          refine head_g (b := false) rfl rfl rfl rfl rfl rfl (fun k hk => hk) ?_
          refine head_g (b := false) rfl rfl rfl rfl rfl rfl (fun k hk => ⟨_, rst, hk⟩) ?_
          refine head_g (v := .bool false) (b := false) rfl rfl rfl rfl rfl rfl (fun k hk => say false (decide_eq_false (by omega)) hk) ?_
          refine head_q rfl rfl rfl rfl (fun k hk => hk) ?_
          refine head_q rfl rfl rfl rfl (fun k hk => hk) ?_
          refine head_g (b := false) rfl rfl rfl rfl rfl rfl (fun k hk => hk) ?_
          refine head_g (b := false) rfl rfl rfl rfl rfl rfl (fun k hk => ⟨_, rsl, hk⟩) ?_
          refine head_g (v := .bool false) (b := false) rfl rfl rfl rfl rfl rfl (fun k hk => say false (decide_eq_false (by omega)) hk) ?_
          refine head_q rfl rfl rfl rfl (fun k hk => hk) ?_
          refine head_q rfl rfl rfl rfl (fun k hk => hk) ?_
          refine head_g (b := false) rfl rfl rfl rfl rfl rfl (fun k hk => hk) ?_
          refine head_g (b := false) rfl rfl rfl rfl rfl rfl (fun k hk => ⟨_, rsl, hk⟩) ?_
          refine head_g (b := false) rfl rfl rfl rfl rfl rfl (fun k hk => hk) ?_
          refine head_g (b := false) rfl rfl rfl rfl rfl rfl (fun k hk => ⟨_, gsl, hk⟩) ?_
          refine head_g (v := .bool false) (b := false) rfl rfl rfl rfl rfl rfl (fun k hk => say false (decide_eq_false (by omega)) hk) ?_
          refine head_q rfl rfl rfl rfl (fun k hk => hk) ?_
          refine head_q rfl rfl rfl rfl (fun k hk => hk) ?_
          refine head_g (b := false) rfl rfl rfl rfl rfl rfl (fun k hk => hk) ?_
          refine head_g (v := .bool true) (b := false) rfl rfl rfl rfl rfl rfl (fun k hk => say true (decide_eq_true ht0) hk) ?_
          refine head_g (b := false) rfl rfl rfl rfl rfl rfl (fun k hk => hk) ?_
          refine head_g (b := true) rfl rfl rfl rfl rfl rfl (fun k hk => hk) ?_
          refine head_g (b := true) rfl rfl rfl rfl rfl rfl (fun k hk => ⟨_, rn, hk⟩) ?_
          refine head_g (b := true) rfl rfl rfl rfl rfl rfl (fun k hk => hk) ?_
          refine head_g (b := true) rfl rfl rfl rfl rfl rfl (fun k hk => hk) ?_
          refine head_g (v := .int .i64 (s : Int)) (b := true) rfl rfl rfl rfl rfl rfl (fun k hk => by show k (.int .i64 (IntKind.i64.wrap ((t : Int) - 1))); rw [es]; exact hk) ?_
          refine head_g (b := true) rfl rfl rfl rfl rfl rfl (fun k hk => ⟨⟨by omega, by omega⟩, hk⟩) ?_
          refine head_g (b := true) rfl rfl rfl rfl rfl rfl (fun k hk => hk) ?_
          refine head_g (v := .int .i64 w2.n) (b := true) rfl rfl rfl rfl rfl rfl (fun k hk => ⟨_, by have := hr2 0 (.int .i64 w2.n) rfl; rwa [show s * 37 + 0 = 0 + ((s : Int)).toNat * 37 + 0 by omega] at this, hk⟩) ?_
          refine head_g (v := .bool false) (b := true) rfl rfl rfl rfl rfl rfl (fun k hk => say false (decide_eq_false (by omega)) hk) ?_
          refine head_g (b := false) rfl rfl rfl rfl rfl rfl (fun k hk => hk) ?_
          refine head_q rfl rfl rfl rfl (fun k hk => hk) ?_
          refine head_q rfl rfl rfl rfl (fun k hk => hk) ?_
          refine head_g (b := false) rfl rfl rfl rfl rfl rfl (fun k hk => hk) ?_
          refine head_g (b := false) rfl rfl rfl rfl rfl rfl (fun k hk => ⟨_, rn, hk⟩) ?_
          refine head_g (v := .bool false) (b := false) rfl rfl rfl rfl rfl rfl (fun k hk => say false (decide_eq_false (by omega)) hk) ?_
          conv => whnf
          intro h6 x6
          refine ops_q rfl rfl (fun k hk => hk) ?_
          refine cw_false rfl (cw_skip ?_)
          have g6 := x6.blk g5
          have y6 := x6.blk y5
          have rst' := x6.rd rst
          have rsl' := x6.rd rsl
          have rn' := x6.rd rn
          have rld' := x6.rd rld
          have rid' := x6.rd rid
          have gid' := x6.rd gid
          refine cw_seq (cw_seq (cw_region rfl ?_))
          have hbz := hok.busy hst
          have h2 : w.st ≠ 2 := by omega
          have hstill := hok.still h2
          refine ops_q rfl rfl (fun k hk => hk) ?_
          refine ops_q rfl rfl (fun k hk => hk) ?_
          refine ops_g (b := true) rfl rfl rfl rfl (fun k hk => hk) ?_
          refine ops_g (b := true) rfl rfl rfl rfl (fun k hk => ⟨_, rld', hk⟩) ?_
          refine ops_g (v := .bool false) (b := true) rfl rfl rfl rfl (fun k hk => say false (decide_eq_false (by omega)) hk) ?_
          refine ops_g (b := true) rfl rfl rfl rfl (fun k hk => hk) ?_
          refine ops_g (b := false) rfl rfl rfl rfl (fun k hk => hk) ?_
          refine ops_g (b := false) rfl rfl rfl rfl (fun k hk => ⟨_, rld', hk⟩) ?_
          refine ops_g (b := false) rfl rfl rfl rfl (fun k hk => hk) ?_
          refine ops_g (b := false) rfl rfl rfl rfl (fun k hk => ⟨_, rsl', hk⟩) ?_
          refine ops_g (v := .bool false) (b := false) rfl rfl rfl rfl (fun k hk => say false (decide_eq_false (by omega)) hk) ?_
          refine ops_g (b := true) rfl rfl rfl rfl (fun k hk => hk) ?_
          refine ops_q rfl rfl (fun k hk => hk) ?_
          refine ops_q rfl rfl (fun k hk => hk) ?_
          refine ops_g (b := false) rfl rfl rfl rfl (fun k hk => hk) ?_
          refine ops_g (b := false) rfl rfl rfl rfl (fun k hk => hk) ?_
          refine ops_g (b := false) rfl rfl rfl rfl (fun k hk => hk) ?_
          refine ops_skip (b := true) rfl rfl rfl ?_
          refine ops_skip (b := true) rfl rfl rfl ?_
          refine ops_skip (b := true) rfl rfl rfl ?_
          refine ops_g (b := false) rfl rfl rfl rfl (fun k hk => hk) ?_
          refine ops_q rfl rfl (fun k hk => hk) ?_
          refine ops_q rfl rfl (fun k hk => hk) ?_
          refine ops_g (b := false) rfl rfl rfl rfl (fun k hk => hk) ?_
          refine ops_g (b := false) rfl rfl rfl rfl (fun k hk => ⟨_, rid', hk⟩) ?_
          refine ops_g (v := .bool false) (b := false) rfl rfl rfl rfl (fun k hk => say false (decide_eq_false (by omega)) hk) ?_
          refine ops_q rfl rfl (fun k hk => hk) ?_
          refine ops_q rfl rfl (fun k hk => hk) ?_
          refine ops_g (b := false) rfl rfl rfl rfl (fun k hk => hk) ?_
          refine ops_g (b := false) rfl rfl rfl rfl (fun k hk => ⟨_, rid', hk⟩) ?_
          refine ops_g (b := false) rfl rfl rfl rfl (fun k hk => hk) ?_
          refine ops_g (b := false) rfl rfl rfl rfl (fun k hk => ⟨_, gid', hk⟩) ?_
          refine ops_g (v := .bool false) (b := false) rfl rfl rfl rfl (fun k hk => say false (decide_eq_false (by omega)) hk) ?_
          refine ops_q rfl rfl (fun k hk => hk) ?_
          refine ops_q rfl rfl (fun k hk => hk) ?_
          refine ops_g (b := false) rfl rfl rfl rfl (fun k hk => hk) ?_
          refine ops_g (b := false) rfl rfl rfl rfl (fun k hk => ⟨_, rst', hk⟩) ?_
          refine ops_g (v := .bool true) (b := false) rfl rfl rfl rfl (fun k hk => say_ne h2 hk) ?_
          refine ops_g (b := false) rfl rfl rfl rfl (fun k hk => hk) ?_
          refine ops_g (b := true) rfl rfl rfl rfl (fun k hk => hk) ?_
          refine ops_g (b := true) rfl rfl rfl rfl (fun k hk => ⟨_, rid', hk⟩) ?_
          refine ops_g (v := .bool false) (b := true) rfl rfl rfl rfl (fun k hk => say_ne_no hstill hk) ?_
          refine ops_g (b := false) rfl rfl rfl rfl (fun k hk => hk) ?_
          refine ops_q rfl rfl (fun k hk => hk) ?_
          refine cw_false rfl (cw_skip ?_)
          refine cw_seq (cw_region rfl ?_)
          conv => whnf
          refine ⟨_, rst', ?_⟩
          conv => whnf
          have x36 := x35.trans x6
          by_cases h5 : w.st = 5
          · refine cw_bne_no rfl h5 (cw_skip ?_)
            have hnl : isLive w = false := by cases hh : isLive w; rfl; exact absurd h5 (w4.1 hh)
            rw [hnl] at hcount
            refine cw_region rfl ?_
            exact ⟨t + 1, ⟨rfl, rfl, rfl, by show some (Value.int .i64 _) = some (Value.int .i64 _); rw [hcount]; simp, slot_i64 _ _ (by omega) (by omega), trivial⟩, ⟨by omega, x3.trans x36⟩, by omega⟩
          · refine cw_bne_yes rfl h5 ?_
            have hnl : isLive w = true := w4.2 h5
            rw [hnl] at hcount
            refine cw_region rfl ?_
            conv => whnf
            refine cw_region rfl ?_
            exact ⟨t + 1, ⟨rfl, rfl, rfl, slot_i64 _ _ (by rw [hcount]; simp) (by rw [hcount, if_pos rfl]; omega), slot_i64 _ _ (by omega) (by omega), trivial⟩, ⟨by omega, x3.trans x36⟩, by omega⟩
        · refine head_q rfl rfl rfl rfl (fun k hk => hk) ?_
          refine head_q rfl rfl rfl rfl (fun k hk => ⟨_, rst, hk⟩) ?_
          refine head_q (v := .bool false) rfl rfl rfl rfl (fun k hk => say false (decide_eq_false (by omega)) hk) ?_
          refine head_q rfl rfl rfl rfl (fun k hk => hk) ?_
          refine head_g (b := false) rfl rfl rfl rfl rfl rfl (fun k hk => hk) ?_
          refine head_g (b := false) rfl rfl rfl rfl rfl rfl (fun k hk => ⟨_, rst, hk⟩) ?_
          refine head_g (v := .bool false) (b := false) rfl rfl rfl rfl rfl rfl (fun k hk => say false (decide_eq_false (by omega)) hk) ?_
          refine head_q rfl rfl rfl rfl (fun k hk => hk) ?_
          refine head_q rfl rfl rfl rfl (fun k hk => hk) ?_
          refine head_g (b := false) rfl rfl rfl rfl rfl rfl (fun k hk => hk) ?_
          refine head_g (b := false) rfl rfl rfl rfl rfl rfl (fun k hk => ⟨_, rsl, hk⟩) ?_
          refine head_g (v := .bool false) (b := false) rfl rfl rfl rfl rfl rfl (fun k hk => say false (decide_eq_false (by omega)) hk) ?_
          refine head_q rfl rfl rfl rfl (fun k hk => hk) ?_
          refine head_q rfl rfl rfl rfl (fun k hk => hk) ?_
          refine head_g (b := false) rfl rfl rfl rfl rfl rfl (fun k hk => hk) ?_
          refine head_g (b := false) rfl rfl rfl rfl rfl rfl (fun k hk => ⟨_, rsl, hk⟩) ?_
          refine head_g (b := false) rfl rfl rfl rfl rfl rfl (fun k hk => hk) ?_
          refine head_g (b := false) rfl rfl rfl rfl rfl rfl (fun k hk => ⟨_, gsl, hk⟩) ?_
          refine head_g (v := .bool false) (b := false) rfl rfl rfl rfl rfl rfl (fun k hk => say false (decide_eq_false (by omega)) hk) ?_
          refine head_q rfl rfl rfl rfl (fun k hk => hk) ?_
          refine head_q rfl rfl rfl rfl (fun k hk => hk) ?_
          refine head_g (b := false) rfl rfl rfl rfl rfl rfl (fun k hk => hk) ?_
          refine head_g (v := .bool false) (b := false) rfl rfl rfl rfl rfl rfl (fun k hk => say false (decide_eq_false ht0) hk) ?_
          refine head_g (b := false) rfl rfl rfl rfl rfl rfl (fun k hk => hk) ?_
          refine head_skip (b := true) rfl rfl rfl rfl ?_
          refine head_skip (b := true) rfl rfl rfl rfl ?_
          refine head_skip (b := true) rfl rfl rfl rfl ?_
          refine head_skip (b := true) rfl rfl rfl rfl ?_
          refine head_skip (b := true) rfl rfl rfl rfl ?_
          refine head_skip (b := true) rfl rfl rfl rfl ?_
          refine head_skip (b := true) rfl rfl rfl rfl ?_
          refine head_skip (b := true) rfl rfl rfl rfl ?_
          refine head_skip (b := true) rfl rfl rfl rfl ?_
          refine head_g (b := false) rfl rfl rfl rfl rfl rfl (fun k hk => hk) ?_
          refine head_q rfl rfl rfl rfl (fun k hk => hk) ?_
          refine head_q rfl rfl rfl rfl (fun k hk => hk) ?_
          refine head_g (b := false) rfl rfl rfl rfl rfl rfl (fun k hk => hk) ?_
          refine head_g (b := false) rfl rfl rfl rfl rfl rfl (fun k hk => ⟨_, rn, hk⟩) ?_
          refine head_g (v := .bool false) (b := false) rfl rfl rfl rfl rfl rfl (fun k hk => say false (decide_eq_false (by omega)) hk) ?_
          conv => whnf
          intro h6 x6
          refine ops_q rfl rfl (fun k hk => hk) ?_
          refine cw_false rfl (cw_skip ?_)
          have g6 := x6.blk g5
          have y6 := x6.blk y5
          have rst' := x6.rd rst
          have rsl' := x6.rd rsl
          have rn' := x6.rd rn
          have rld' := x6.rd rld
          have rid' := x6.rd rid
          have gid' := x6.rd gid
          refine cw_seq (cw_seq (cw_region rfl ?_))
          have hbz := hok.busy hst
          have h2 : w.st ≠ 2 := by omega
          have hstill := hok.still h2
          refine ops_q rfl rfl (fun k hk => hk) ?_
          refine ops_q rfl rfl (fun k hk => hk) ?_
          refine ops_g (b := true) rfl rfl rfl rfl (fun k hk => hk) ?_
          refine ops_g (b := true) rfl rfl rfl rfl (fun k hk => ⟨_, rld', hk⟩) ?_
          refine ops_g (v := .bool false) (b := true) rfl rfl rfl rfl (fun k hk => say false (decide_eq_false (by omega)) hk) ?_
          refine ops_g (b := true) rfl rfl rfl rfl (fun k hk => hk) ?_
          refine ops_g (b := false) rfl rfl rfl rfl (fun k hk => hk) ?_
          refine ops_g (b := false) rfl rfl rfl rfl (fun k hk => ⟨_, rld', hk⟩) ?_
          refine ops_g (b := false) rfl rfl rfl rfl (fun k hk => hk) ?_
          refine ops_g (b := false) rfl rfl rfl rfl (fun k hk => ⟨_, rsl', hk⟩) ?_
          refine ops_g (v := .bool false) (b := false) rfl rfl rfl rfl (fun k hk => say false (decide_eq_false (by omega)) hk) ?_
          refine ops_g (b := true) rfl rfl rfl rfl (fun k hk => hk) ?_
          refine ops_q rfl rfl (fun k hk => hk) ?_
          refine ops_q rfl rfl (fun k hk => hk) ?_
          refine ops_g (b := false) rfl rfl rfl rfl (fun k hk => hk) ?_
          refine ops_g (b := false) rfl rfl rfl rfl (fun k hk => hk) ?_
          refine ops_g (b := false) rfl rfl rfl rfl (fun k hk => hk) ?_
          refine ops_skip (b := true) rfl rfl rfl ?_
          refine ops_skip (b := true) rfl rfl rfl ?_
          refine ops_skip (b := true) rfl rfl rfl ?_
          refine ops_g (b := false) rfl rfl rfl rfl (fun k hk => hk) ?_
          refine ops_q rfl rfl (fun k hk => hk) ?_
          refine ops_q rfl rfl (fun k hk => hk) ?_
          refine ops_g (b := false) rfl rfl rfl rfl (fun k hk => hk) ?_
          refine ops_g (b := false) rfl rfl rfl rfl (fun k hk => ⟨_, rid', hk⟩) ?_
          refine ops_g (v := .bool false) (b := false) rfl rfl rfl rfl (fun k hk => say false (decide_eq_false (by omega)) hk) ?_
          refine ops_q rfl rfl (fun k hk => hk) ?_
          refine ops_q rfl rfl (fun k hk => hk) ?_
          refine ops_g (b := false) rfl rfl rfl rfl (fun k hk => hk) ?_
          refine ops_g (b := false) rfl rfl rfl rfl (fun k hk => ⟨_, rid', hk⟩) ?_
          refine ops_g (b := false) rfl rfl rfl rfl (fun k hk => hk) ?_
          refine ops_g (b := false) rfl rfl rfl rfl (fun k hk => ⟨_, gid', hk⟩) ?_
          refine ops_g (v := .bool false) (b := false) rfl rfl rfl rfl (fun k hk => say false (decide_eq_false (by omega)) hk) ?_
          refine ops_q rfl rfl (fun k hk => hk) ?_
          refine ops_q rfl rfl (fun k hk => hk) ?_
          refine ops_g (b := false) rfl rfl rfl rfl (fun k hk => hk) ?_
          refine ops_g (b := false) rfl rfl rfl rfl (fun k hk => ⟨_, rst', hk⟩) ?_
          refine ops_g (v := .bool true) (b := false) rfl rfl rfl rfl (fun k hk => say_ne h2 hk) ?_
          refine ops_g (b := false) rfl rfl rfl rfl (fun k hk => hk) ?_
          refine ops_g (b := true) rfl rfl rfl rfl (fun k hk => hk) ?_
          refine ops_g (b := true) rfl rfl rfl rfl (fun k hk => ⟨_, rid', hk⟩) ?_
          refine ops_g (v := .bool false) (b := true) rfl rfl rfl rfl (fun k hk => say_ne_no hstill hk) ?_
          refine ops_g (b := false) rfl rfl rfl rfl (fun k hk => hk) ?_
          refine ops_q rfl rfl (fun k hk => hk) ?_
          refine cw_false rfl (cw_skip ?_)
          refine cw_seq (cw_region rfl ?_)
          conv => whnf
          refine ⟨_, rst', ?_⟩
          conv => whnf
          have x36 := x35.trans x6
          by_cases h5 : w.st = 5
          · refine cw_bne_no rfl h5 (cw_skip ?_)
            have hnl : isLive w = false := by cases hh : isLive w; rfl; exact absurd h5 (w4.1 hh)
            rw [hnl] at hcount
            refine cw_region rfl ?_
            exact ⟨t + 1, ⟨rfl, rfl, rfl, by show some (Value.int .i64 _) = some (Value.int .i64 _); rw [hcount]; simp, slot_i64 _ _ (by omega) (by omega), trivial⟩, ⟨by omega, x3.trans x36⟩, by omega⟩
          · refine cw_bne_yes rfl h5 ?_
            have hnl : isLive w = true := w4.2 h5
            rw [hnl] at hcount
            refine cw_region rfl ?_
            conv => whnf
            refine cw_region rfl ?_
            exact ⟨t + 1, ⟨rfl, rfl, rfl, slot_i64 _ _ (by rw [hcount]; simp) (by rw [hcount, if_pos rfl]; omega), slot_i64 _ _ (by omega) (by omega), trivial⟩, ⟨by omega, x3.trans x36⟩, by omega⟩
      by_cases h4 : w.st = 4
      · have hst : w.st = 3 ∨ w.st = 4 := .inr h4
        refine ops_q rfl rfl (fun k hk => hk) ?_
        refine ops_q rfl rfl (fun k hk => ⟨_, rst, hk⟩) ?_
        refine ops_q (v := .bool false) rfl rfl (fun k hk => say_eq_no h3 hk) ?_
        refine ops_q rfl rfl (fun k hk => hk) ?_
        refine ops_g (b := false) rfl rfl rfl rfl (fun k hk => hk) ?_
        refine ops_g (b := false) rfl rfl rfl rfl (fun k hk => ⟨_, rst, hk⟩) ?_
        refine ops_g (v := .bool true) (b := false) rfl rfl rfl rfl (fun k hk => say_eq h4 hk) ?_
        refine ops_q rfl rfl (fun k hk => hk) ?_
        refine ops_q rfl rfl (fun k hk => hk) ?_
        refine cw_seq (cw_seq ?_)
        refine cw_drawn (by kernel_rfl) 39 (fun _ => false) [0, 1, 2, 3, 4, 5, 6, 7, 8, 9, 10, 11, 12, 13, 14, 15, 16, 17, 18, 19, 20, 21, 22, 23, 24, 25, 26, 27, 28, 29, 30, 31, 32, 33, 34, 35, 36, 37, 38] (by kernel_rfl) rfl ?_
        by_cases ht0 : 0 < (t : Int)
        · obtain ⟨s, hs⟩ : ∃ s, t = s + 1 := ⟨t - 1, by omega⟩
          have hw2 : L[s]? = some L[s] := List.getElem?_eq_getElem (by omega)
          generalize L[s] = w2 at hw2
          have hless := w5 s w2 hs hw2
          obtain ⟨g2, c2, hv2, hr2⟩ := o5.get kL hw2
          injection hv2 with hv21 _ hv22
          injection hv21 with hv21
          injection hv21 with hv21
          subst hv21
          have es : IntKind.i64.wrap ((t : Int) - 1) = (s : Int) := by rw [i64_in _ (by omega) (by omega)]; omega
          refine head_q rfl rfl rfl rfl (fun k hk => hk) ?_
          refine head_q rfl rfl rfl rfl (fun k hk => ⟨_, rst, hk⟩) ?_
          refine head_q (v := .bool false) rfl rfl rfl rfl (fun k hk => say false (decide_eq_false (by omega)) hk) ?_
          refine head_q rfl rfl rfl rfl (fun k hk => hk) ?_
          refine head_g (b := false) rfl rfl rfl rfl rfl rfl (fun k hk => hk) ?_
          refine head_g (b := false) rfl rfl rfl rfl rfl rfl (fun k hk => ⟨_, rst, hk⟩) ?_
          refine head_g (v := .bool false) (b := false) rfl rfl rfl rfl rfl rfl (fun k hk => say false (decide_eq_false (by omega)) hk) ?_
          refine head_q rfl rfl rfl rfl (fun k hk => hk) ?_
          refine head_q rfl rfl rfl rfl (fun k hk => hk) ?_
          refine head_g (b := false) rfl rfl rfl rfl rfl rfl (fun k hk => hk) ?_
          refine head_g (b := false) rfl rfl rfl rfl rfl rfl (fun k hk => ⟨_, rsl, hk⟩) ?_
          refine head_g (v := .bool false) (b := false) rfl rfl rfl rfl rfl rfl (fun k hk => say false (decide_eq_false (by omega)) hk) ?_
          refine head_q rfl rfl rfl rfl (fun k hk => hk) ?_
          refine head_q rfl rfl rfl rfl (fun k hk => hk) ?_
          refine head_g (b := false) rfl rfl rfl rfl rfl rfl (fun k hk => hk) ?_
          refine head_g (b := false) rfl rfl rfl rfl rfl rfl (fun k hk => ⟨_, rsl, hk⟩) ?_
          refine head_g (b := false) rfl rfl rfl rfl rfl rfl (fun k hk => hk) ?_
          refine head_g (b := false) rfl rfl rfl rfl rfl rfl (fun k hk => ⟨_, gsl, hk⟩) ?_
          refine head_g (v := .bool false) (b := false) rfl rfl rfl rfl rfl rfl (fun k hk => say false (decide_eq_false (by omega)) hk) ?_
          refine head_q rfl rfl rfl rfl (fun k hk => hk) ?_
          refine head_q rfl rfl rfl rfl (fun k hk => hk) ?_
          refine head_g (b := false) rfl rfl rfl rfl rfl rfl (fun k hk => hk) ?_
          refine head_g (v := .bool true) (b := false) rfl rfl rfl rfl rfl rfl (fun k hk => say true (decide_eq_true ht0) hk) ?_
          refine head_g (b := false) rfl rfl rfl rfl rfl rfl (fun k hk => hk) ?_
          refine head_g (b := true) rfl rfl rfl rfl rfl rfl (fun k hk => hk) ?_
          refine head_g (b := true) rfl rfl rfl rfl rfl rfl (fun k hk => ⟨_, rn, hk⟩) ?_
          refine head_g (b := true) rfl rfl rfl rfl rfl rfl (fun k hk => hk) ?_
          refine head_g (b := true) rfl rfl rfl rfl rfl rfl (fun k hk => hk) ?_
          refine head_g (v := .int .i64 (s : Int)) (b := true) rfl rfl rfl rfl rfl rfl (fun k hk => by show k (.int .i64 (IntKind.i64.wrap ((t : Int) - 1))); rw [es]; exact hk) ?_
          refine head_g (b := true) rfl rfl rfl rfl rfl rfl (fun k hk => ⟨⟨by omega, by omega⟩, hk⟩) ?_
          refine head_g (b := true) rfl rfl rfl rfl rfl rfl (fun k hk => hk) ?_
          refine head_g (v := .int .i64 w2.n) (b := true) rfl rfl rfl rfl rfl rfl (fun k hk => ⟨_, by have := hr2 0 (.int .i64 w2.n) rfl; rwa [show s * 37 + 0 = 0 + ((s : Int)).toNat * 37 + 0 by omega] at this, hk⟩) ?_
          refine head_g (v := .bool false) (b := true) rfl rfl rfl rfl rfl rfl (fun k hk => say false (decide_eq_false (by omega)) hk) ?_
          refine head_g (b := false) rfl rfl rfl rfl rfl rfl (fun k hk => hk) ?_
          refine head_q rfl rfl rfl rfl (fun k hk => hk) ?_
          refine head_q rfl rfl rfl rfl (fun k hk => hk) ?_
          refine head_g (b := false) rfl rfl rfl rfl rfl rfl (fun k hk => hk) ?_
          refine head_g (b := false) rfl rfl rfl rfl rfl rfl (fun k hk => ⟨_, rn, hk⟩) ?_
          refine head_g (v := .bool false) (b := false) rfl rfl rfl rfl rfl rfl (fun k hk => say false (decide_eq_false (by omega)) hk) ?_
          conv => whnf
          intro h6 x6
          refine ops_q rfl rfl (fun k hk => hk) ?_
          refine cw_false rfl (cw_skip ?_)
          have g6 := x6.blk g5
          have y6 := x6.blk y5
          have rst' := x6.rd rst
          have rsl' := x6.rd rsl
          have rn' := x6.rd rn
          have rld' := x6.rd rld
          have rid' := x6.rd rid
          have gid' := x6.rd gid
          refine cw_seq (cw_seq (cw_region rfl ?_))
          have hbz := hok.busy hst
          have h2 : w.st ≠ 2 := by omega
          have hstill := hok.still h2
          refine ops_q rfl rfl (fun k hk => hk) ?_
          refine ops_q rfl rfl (fun k hk => hk) ?_
          refine ops_g (b := true) rfl rfl rfl rfl (fun k hk => hk) ?_
          refine ops_g (b := true) rfl rfl rfl rfl (fun k hk => ⟨_, rld', hk⟩) ?_
          refine ops_g (v := .bool false) (b := true) rfl rfl rfl rfl (fun k hk => say false (decide_eq_false (by omega)) hk) ?_
          refine ops_g (b := true) rfl rfl rfl rfl (fun k hk => hk) ?_
          refine ops_g (b := false) rfl rfl rfl rfl (fun k hk => hk) ?_
          refine ops_g (b := false) rfl rfl rfl rfl (fun k hk => ⟨_, rld', hk⟩) ?_
          refine ops_g (b := false) rfl rfl rfl rfl (fun k hk => hk) ?_
          refine ops_g (b := false) rfl rfl rfl rfl (fun k hk => ⟨_, rsl', hk⟩) ?_
          refine ops_g (v := .bool false) (b := false) rfl rfl rfl rfl (fun k hk => say false (decide_eq_false (by omega)) hk) ?_
          refine ops_g (b := true) rfl rfl rfl rfl (fun k hk => hk) ?_
          refine ops_q rfl rfl (fun k hk => hk) ?_
          refine ops_q rfl rfl (fun k hk => hk) ?_
          refine ops_g (b := false) rfl rfl rfl rfl (fun k hk => hk) ?_
          refine ops_g (b := false) rfl rfl rfl rfl (fun k hk => hk) ?_
          refine ops_g (b := false) rfl rfl rfl rfl (fun k hk => hk) ?_
          refine ops_skip (b := true) rfl rfl rfl ?_
          refine ops_skip (b := true) rfl rfl rfl ?_
          refine ops_skip (b := true) rfl rfl rfl ?_
          refine ops_g (b := false) rfl rfl rfl rfl (fun k hk => hk) ?_
          refine ops_q rfl rfl (fun k hk => hk) ?_
          refine ops_q rfl rfl (fun k hk => hk) ?_
          refine ops_g (b := false) rfl rfl rfl rfl (fun k hk => hk) ?_
          refine ops_g (b := false) rfl rfl rfl rfl (fun k hk => ⟨_, rid', hk⟩) ?_
          refine ops_g (v := .bool false) (b := false) rfl rfl rfl rfl (fun k hk => say false (decide_eq_false (by omega)) hk) ?_
          refine ops_q rfl rfl (fun k hk => hk) ?_
          refine ops_q rfl rfl (fun k hk => hk) ?_
          refine ops_g (b := false) rfl rfl rfl rfl (fun k hk => hk) ?_
          refine ops_g (b := false) rfl rfl rfl rfl (fun k hk => ⟨_, rid', hk⟩) ?_
          refine ops_g (b := false) rfl rfl rfl rfl (fun k hk => hk) ?_
          refine ops_g (b := false) rfl rfl rfl rfl (fun k hk => ⟨_, gid', hk⟩) ?_
          refine ops_g (v := .bool false) (b := false) rfl rfl rfl rfl (fun k hk => say false (decide_eq_false (by omega)) hk) ?_
          refine ops_q rfl rfl (fun k hk => hk) ?_
          refine ops_q rfl rfl (fun k hk => hk) ?_
          refine ops_g (b := false) rfl rfl rfl rfl (fun k hk => hk) ?_
          refine ops_g (b := false) rfl rfl rfl rfl (fun k hk => ⟨_, rst', hk⟩) ?_
          refine ops_g (v := .bool true) (b := false) rfl rfl rfl rfl (fun k hk => say_ne h2 hk) ?_
          refine ops_g (b := false) rfl rfl rfl rfl (fun k hk => hk) ?_
          refine ops_g (b := true) rfl rfl rfl rfl (fun k hk => hk) ?_
          refine ops_g (b := true) rfl rfl rfl rfl (fun k hk => ⟨_, rid', hk⟩) ?_
          refine ops_g (v := .bool false) (b := true) rfl rfl rfl rfl (fun k hk => say_ne_no hstill hk) ?_
          refine ops_g (b := false) rfl rfl rfl rfl (fun k hk => hk) ?_
          refine ops_q rfl rfl (fun k hk => hk) ?_
          refine cw_false rfl (cw_skip ?_)
          refine cw_seq (cw_region rfl ?_)
          conv => whnf
          refine ⟨_, rst', ?_⟩
          conv => whnf
          have x36 := x35.trans x6
          by_cases h5 : w.st = 5
          · refine cw_bne_no rfl h5 (cw_skip ?_)
            have hnl : isLive w = false := by cases hh : isLive w; rfl; exact absurd h5 (w4.1 hh)
            rw [hnl] at hcount
            refine cw_region rfl ?_
            exact ⟨t + 1, ⟨rfl, rfl, rfl, by show some (Value.int .i64 _) = some (Value.int .i64 _); rw [hcount]; simp, slot_i64 _ _ (by omega) (by omega), trivial⟩, ⟨by omega, x3.trans x36⟩, by omega⟩
          · refine cw_bne_yes rfl h5 ?_
            have hnl : isLive w = true := w4.2 h5
            rw [hnl] at hcount
            refine cw_region rfl ?_
            conv => whnf
            refine cw_region rfl ?_
            exact ⟨t + 1, ⟨rfl, rfl, rfl, slot_i64 _ _ (by rw [hcount]; simp) (by rw [hcount, if_pos rfl]; omega), slot_i64 _ _ (by omega) (by omega), trivial⟩, ⟨by omega, x3.trans x36⟩, by omega⟩
        · refine head_q rfl rfl rfl rfl (fun k hk => hk) ?_
          refine head_q rfl rfl rfl rfl (fun k hk => ⟨_, rst, hk⟩) ?_
          refine head_q (v := .bool false) rfl rfl rfl rfl (fun k hk => say false (decide_eq_false (by omega)) hk) ?_
          refine head_q rfl rfl rfl rfl (fun k hk => hk) ?_
          refine head_g (b := false) rfl rfl rfl rfl rfl rfl (fun k hk => hk) ?_
          refine head_g (b := false) rfl rfl rfl rfl rfl rfl (fun k hk => ⟨_, rst, hk⟩) ?_
          refine head_g (v := .bool false) (b := false) rfl rfl rfl rfl rfl rfl (fun k hk => say false (decide_eq_false (by omega)) hk) ?_
          refine head_q rfl rfl rfl rfl (fun k hk => hk) ?_
          refine head_q rfl rfl rfl rfl (fun k hk => hk) ?_
          refine head_g (b := false) rfl rfl rfl rfl rfl rfl (fun k hk => hk) ?_
          refine head_g (b := false) rfl rfl rfl rfl rfl rfl (fun k hk => ⟨_, rsl, hk⟩) ?_
          refine head_g (v := .bool false) (b := false) rfl rfl rfl rfl rfl rfl (fun k hk => say false (decide_eq_false (by omega)) hk) ?_
          refine head_q rfl rfl rfl rfl (fun k hk => hk) ?_
          refine head_q rfl rfl rfl rfl (fun k hk => hk) ?_
          refine head_g (b := false) rfl rfl rfl rfl rfl rfl (fun k hk => hk) ?_
          refine head_g (b := false) rfl rfl rfl rfl rfl rfl (fun k hk => ⟨_, rsl, hk⟩) ?_
          refine head_g (b := false) rfl rfl rfl rfl rfl rfl (fun k hk => hk) ?_
          refine head_g (b := false) rfl rfl rfl rfl rfl rfl (fun k hk => ⟨_, gsl, hk⟩) ?_
          refine head_g (v := .bool false) (b := false) rfl rfl rfl rfl rfl rfl (fun k hk => say false (decide_eq_false (by omega)) hk) ?_
          refine head_q rfl rfl rfl rfl (fun k hk => hk) ?_
          refine head_q rfl rfl rfl rfl (fun k hk => hk) ?_
          refine head_g (b := false) rfl rfl rfl rfl rfl rfl (fun k hk => hk) ?_
          refine head_g (v := .bool false) (b := false) rfl rfl rfl rfl rfl rfl (fun k hk => say false (decide_eq_false ht0) hk) ?_
          refine head_g (b := false) rfl rfl rfl rfl rfl rfl (fun k hk => hk) ?_
          refine head_skip (b := true) rfl rfl rfl rfl ?_
          refine head_skip (b := true) rfl rfl rfl rfl ?_
          refine head_skip (b := true) rfl rfl rfl rfl ?_
          refine head_skip (b := true) rfl rfl rfl rfl ?_
          refine head_skip (b := true) rfl rfl rfl rfl ?_
          refine head_skip (b := true) rfl rfl rfl rfl ?_
          refine head_skip (b := true) rfl rfl rfl rfl ?_
          refine head_skip (b := true) rfl rfl rfl rfl ?_
          refine head_skip (b := true) rfl rfl rfl rfl ?_
          refine head_g (b := false) rfl rfl rfl rfl rfl rfl (fun k hk => hk) ?_
          refine head_q rfl rfl rfl rfl (fun k hk => hk) ?_
          refine head_q rfl rfl rfl rfl (fun k hk => hk) ?_
          refine head_g (b := false) rfl rfl rfl rfl rfl rfl (fun k hk => hk) ?_
          refine head_g (b := false) rfl rfl rfl rfl rfl rfl (fun k hk => ⟨_, rn, hk⟩) ?_
          refine head_g (v := .bool false) (b := false) rfl rfl rfl rfl rfl rfl (fun k hk => say false (decide_eq_false (by omega)) hk) ?_
          conv => whnf
          intro h6 x6
          refine ops_q rfl rfl (fun k hk => hk) ?_
          refine cw_false rfl (cw_skip ?_)
          have g6 := x6.blk g5
          have y6 := x6.blk y5
          have rst' := x6.rd rst
          have rsl' := x6.rd rsl
          have rn' := x6.rd rn
          have rld' := x6.rd rld
          have rid' := x6.rd rid
          have gid' := x6.rd gid
          refine cw_seq (cw_seq (cw_region rfl ?_))
          have hbz := hok.busy hst
          have h2 : w.st ≠ 2 := by omega
          have hstill := hok.still h2
          refine ops_q rfl rfl (fun k hk => hk) ?_
          refine ops_q rfl rfl (fun k hk => hk) ?_
          refine ops_g (b := true) rfl rfl rfl rfl (fun k hk => hk) ?_
          refine ops_g (b := true) rfl rfl rfl rfl (fun k hk => ⟨_, rld', hk⟩) ?_
          refine ops_g (v := .bool false) (b := true) rfl rfl rfl rfl (fun k hk => say false (decide_eq_false (by omega)) hk) ?_
          refine ops_g (b := true) rfl rfl rfl rfl (fun k hk => hk) ?_
          refine ops_g (b := false) rfl rfl rfl rfl (fun k hk => hk) ?_
          refine ops_g (b := false) rfl rfl rfl rfl (fun k hk => ⟨_, rld', hk⟩) ?_
          refine ops_g (b := false) rfl rfl rfl rfl (fun k hk => hk) ?_
          refine ops_g (b := false) rfl rfl rfl rfl (fun k hk => ⟨_, rsl', hk⟩) ?_
          refine ops_g (v := .bool false) (b := false) rfl rfl rfl rfl (fun k hk => say false (decide_eq_false (by omega)) hk) ?_
          refine ops_g (b := true) rfl rfl rfl rfl (fun k hk => hk) ?_
          refine ops_q rfl rfl (fun k hk => hk) ?_
          refine ops_q rfl rfl (fun k hk => hk) ?_
          refine ops_g (b := false) rfl rfl rfl rfl (fun k hk => hk) ?_
          refine ops_g (b := false) rfl rfl rfl rfl (fun k hk => hk) ?_
          refine ops_g (b := false) rfl rfl rfl rfl (fun k hk => hk) ?_
          refine ops_skip (b := true) rfl rfl rfl ?_
          refine ops_skip (b := true) rfl rfl rfl ?_
          refine ops_skip (b := true) rfl rfl rfl ?_
          refine ops_g (b := false) rfl rfl rfl rfl (fun k hk => hk) ?_
          refine ops_q rfl rfl (fun k hk => hk) ?_
          refine ops_q rfl rfl (fun k hk => hk) ?_
          refine ops_g (b := false) rfl rfl rfl rfl (fun k hk => hk) ?_
          refine ops_g (b := false) rfl rfl rfl rfl (fun k hk => ⟨_, rid', hk⟩) ?_
          refine ops_g (v := .bool false) (b := false) rfl rfl rfl rfl (fun k hk => say false (decide_eq_false (by omega)) hk) ?_
          refine ops_q rfl rfl (fun k hk => hk) ?_
          refine ops_q rfl rfl (fun k hk => hk) ?_
          refine ops_g (b := false) rfl rfl rfl rfl (fun k hk => hk) ?_
          refine ops_g (b := false) rfl rfl rfl rfl (fun k hk => ⟨_, rid', hk⟩) ?_
          refine ops_g (b := false) rfl rfl rfl rfl (fun k hk => hk) ?_
          refine ops_g (b := false) rfl rfl rfl rfl (fun k hk => ⟨_, gid', hk⟩) ?_
          refine ops_g (v := .bool false) (b := false) rfl rfl rfl rfl (fun k hk => say false (decide_eq_false (by omega)) hk) ?_
          refine ops_q rfl rfl (fun k hk => hk) ?_
          refine ops_q rfl rfl (fun k hk => hk) ?_
          refine ops_g (b := false) rfl rfl rfl rfl (fun k hk => hk) ?_
          refine ops_g (b := false) rfl rfl rfl rfl (fun k hk => ⟨_, rst', hk⟩) ?_
          refine ops_g (v := .bool true) (b := false) rfl rfl rfl rfl (fun k hk => say_ne h2 hk) ?_
          refine ops_g (b := false) rfl rfl rfl rfl (fun k hk => hk) ?_
          refine ops_g (b := true) rfl rfl rfl rfl (fun k hk => hk) ?_
          refine ops_g (b := true) rfl rfl rfl rfl (fun k hk => ⟨_, rid', hk⟩) ?_
          refine ops_g (v := .bool false) (b := true) rfl rfl rfl rfl (fun k hk => say_ne_no hstill hk) ?_
          refine ops_g (b := false) rfl rfl rfl rfl (fun k hk => hk) ?_
          refine ops_q rfl rfl (fun k hk => hk) ?_
          refine cw_false rfl (cw_skip ?_)
          refine cw_seq (cw_region rfl ?_)
          conv => whnf
          refine ⟨_, rst', ?_⟩
          conv => whnf
          have x36 := x35.trans x6
          by_cases h5 : w.st = 5
          · refine cw_bne_no rfl h5 (cw_skip ?_)
            have hnl : isLive w = false := by cases hh : isLive w; rfl; exact absurd h5 (w4.1 hh)
            rw [hnl] at hcount
            refine cw_region rfl ?_
            exact ⟨t + 1, ⟨rfl, rfl, rfl, by show some (Value.int .i64 _) = some (Value.int .i64 _); rw [hcount]; simp, slot_i64 _ _ (by omega) (by omega), trivial⟩, ⟨by omega, x3.trans x36⟩, by omega⟩
          · refine cw_bne_yes rfl h5 ?_
            have hnl : isLive w = true := w4.2 h5
            rw [hnl] at hcount
            refine cw_region rfl ?_
            conv => whnf
            refine cw_region rfl ?_
            exact ⟨t + 1, ⟨rfl, rfl, rfl, slot_i64 _ _ (by rw [hcount]; simp) (by rw [hcount, if_pos rfl]; omega), slot_i64 _ _ (by omega) (by omega), trivial⟩, ⟨by omega, x3.trans x36⟩, by omega⟩
      · have hst : ¬ (w.st = 3 ∨ w.st = 4) := fun e => e.elim h3 h4
        refine ops_q rfl rfl (fun k hk => hk) ?_
        refine ops_q rfl rfl (fun k hk => ⟨_, rst, hk⟩) ?_
        refine ops_q (v := .bool false) rfl rfl (fun k hk => say_eq_no h3 hk) ?_
        refine ops_q rfl rfl (fun k hk => hk) ?_
        refine ops_g (b := false) rfl rfl rfl rfl (fun k hk => hk) ?_
        refine ops_g (b := false) rfl rfl rfl rfl (fun k hk => ⟨_, rst, hk⟩) ?_
        refine ops_g (v := .bool false) (b := false) rfl rfl rfl rfl (fun k hk => say_eq_no h4 hk) ?_
        refine ops_q rfl rfl (fun k hk => hk) ?_
        refine ops_q rfl rfl (fun k hk => hk) ?_
        refine cw_seq (cw_seq ?_)
        refine cw_drawn (by kernel_rfl) 39 (fun _ => false) [0, 1, 2, 3, 4, 5, 6, 7, 8, 9, 10, 11, 12, 13, 14, 15, 16, 17, 18, 19, 20, 21, 22, 23, 24, 25, 26, 27, 28, 29, 30, 31, 32, 33, 34, 35, 36, 37, 38] (by kernel_rfl) rfl ?_
        by_cases ht0 : 0 < (t : Int)
        · obtain ⟨s, hs⟩ : ∃ s, t = s + 1 := ⟨t - 1, by omega⟩
          have hw2 : L[s]? = some L[s] := List.getElem?_eq_getElem (by omega)
          generalize L[s] = w2 at hw2
          have hless := w5 s w2 hs hw2
          obtain ⟨g2, c2, hv2, hr2⟩ := o5.get kL hw2
          injection hv2 with hv21 _ hv22
          injection hv21 with hv21
          injection hv21 with hv21
          subst hv21
          have es : IntKind.i64.wrap ((t : Int) - 1) = (s : Int) := by rw [i64_in _ (by omega) (by omega)]; omega
          refine head_q rfl rfl rfl rfl (fun k hk => hk) ?_
          refine head_q rfl rfl rfl rfl (fun k hk => ⟨_, rst, hk⟩) ?_
          refine head_q (v := .bool false) rfl rfl rfl rfl (fun k hk => say false (decide_eq_false (by omega)) hk) ?_
          refine head_q rfl rfl rfl rfl (fun k hk => hk) ?_
          refine head_g (b := false) rfl rfl rfl rfl rfl rfl (fun k hk => hk) ?_
          refine head_g (b := false) rfl rfl rfl rfl rfl rfl (fun k hk => ⟨_, rst, hk⟩) ?_
          refine head_g (v := .bool false) (b := false) rfl rfl rfl rfl rfl rfl (fun k hk => say false (decide_eq_false (by omega)) hk) ?_
          refine head_q rfl rfl rfl rfl (fun k hk => hk) ?_
          refine head_q rfl rfl rfl rfl (fun k hk => hk) ?_
          refine head_g (b := false) rfl rfl rfl rfl rfl rfl (fun k hk => hk) ?_
          refine head_g (b := false) rfl rfl rfl rfl rfl rfl (fun k hk => ⟨_, rsl, hk⟩) ?_
          refine head_g (v := .bool false) (b := false) rfl rfl rfl rfl rfl rfl (fun k hk => say false (decide_eq_false (by omega)) hk) ?_
          refine head_q rfl rfl rfl rfl (fun k hk => hk) ?_
          refine head_q rfl rfl rfl rfl (fun k hk => hk) ?_
          refine head_g (b := false) rfl rfl rfl rfl rfl rfl (fun k hk => hk) ?_
          refine head_g (b := false) rfl rfl rfl rfl rfl rfl (fun k hk => ⟨_, rsl, hk⟩) ?_
          refine head_g (b := false) rfl rfl rfl rfl rfl rfl (fun k hk => hk) ?_
          refine head_g (b := false) rfl rfl rfl rfl rfl rfl (fun k hk => ⟨_, gsl, hk⟩) ?_
          refine head_g (v := .bool false) (b := false) rfl rfl rfl rfl rfl rfl (fun k hk => say false (decide_eq_false (by omega)) hk) ?_
          refine head_q rfl rfl rfl rfl (fun k hk => hk) ?_
          refine head_q rfl rfl rfl rfl (fun k hk => hk) ?_
          refine head_g (b := false) rfl rfl rfl rfl rfl rfl (fun k hk => hk) ?_
          refine head_g (v := .bool true) (b := false) rfl rfl rfl rfl rfl rfl (fun k hk => say true (decide_eq_true ht0) hk) ?_
          refine head_g (b := false) rfl rfl rfl rfl rfl rfl (fun k hk => hk) ?_
          refine head_g (b := true) rfl rfl rfl rfl rfl rfl (fun k hk => hk) ?_
          refine head_g (b := true) rfl rfl rfl rfl rfl rfl (fun k hk => ⟨_, rn, hk⟩) ?_
          refine head_g (b := true) rfl rfl rfl rfl rfl rfl (fun k hk => hk) ?_
          refine head_g (b := true) rfl rfl rfl rfl rfl rfl (fun k hk => hk) ?_
          refine head_g (v := .int .i64 (s : Int)) (b := true) rfl rfl rfl rfl rfl rfl (fun k hk => by show k (.int .i64 (IntKind.i64.wrap ((t : Int) - 1))); rw [es]; exact hk) ?_
          refine head_g (b := true) rfl rfl rfl rfl rfl rfl (fun k hk => ⟨⟨by omega, by omega⟩, hk⟩) ?_
          refine head_g (b := true) rfl rfl rfl rfl rfl rfl (fun k hk => hk) ?_
          refine head_g (v := .int .i64 w2.n) (b := true) rfl rfl rfl rfl rfl rfl (fun k hk => ⟨_, by have := hr2 0 (.int .i64 w2.n) rfl; rwa [show s * 37 + 0 = 0 + ((s : Int)).toNat * 37 + 0 by omega] at this, hk⟩) ?_
          refine head_g (v := .bool false) (b := true) rfl rfl rfl rfl rfl rfl (fun k hk => say false (decide_eq_false (by omega)) hk) ?_
          refine head_g (b := false) rfl rfl rfl rfl rfl rfl (fun k hk => hk) ?_
          refine head_q rfl rfl rfl rfl (fun k hk => hk) ?_
          refine head_q rfl rfl rfl rfl (fun k hk => hk) ?_
          refine head_g (b := false) rfl rfl rfl rfl rfl rfl (fun k hk => hk) ?_
          refine head_g (b := false) rfl rfl rfl rfl rfl rfl (fun k hk => ⟨_, rn, hk⟩) ?_
          refine head_g (v := .bool false) (b := false) rfl rfl rfl rfl rfl rfl (fun k hk => say false (decide_eq_false (by omega)) hk) ?_
          conv => whnf
          intro h6 x6
          refine ops_q rfl rfl (fun k hk => hk) ?_
          refine cw_false rfl (cw_skip ?_)
          have g6 := x6.blk g5
          have y6 := x6.blk y5
          have rst' := x6.rd rst
          have rsl' := x6.rd rsl
          have rn' := x6.rd rn
          have rld' := x6.rd rld
          have rid' := x6.rd rid
          have gid' := x6.rd gid
          refine cw_seq (cw_seq (cw_region rfl ?_))
          have hcalm := hok.calm hst
          by_cases h2 : w.st = 2
          · refine ops_q rfl rfl (fun k hk => hk) ?_
            refine ops_q rfl rfl (fun k hk => hk) ?_
            refine ops_skip (b := true) rfl rfl rfl ?_
            refine ops_skip (b := true) rfl rfl rfl ?_
            refine ops_skip (b := true) rfl rfl rfl ?_
            refine ops_skip (b := true) rfl rfl rfl ?_
            refine ops_skipu rfl rfl rfl ?_
            refine ops_skipu rfl rfl rfl ?_
            refine ops_skipu rfl rfl rfl ?_
            refine ops_skipu rfl rfl rfl ?_
            refine ops_skipu rfl rfl rfl ?_
            refine ops_skip (b := true) rfl rfl rfl ?_
            refine ops_q rfl rfl (fun k hk => hk) ?_
            refine ops_q rfl rfl (fun k hk => hk) ?_
            refine ops_g (b := false) rfl rfl rfl rfl (fun k hk => hk) ?_
            refine ops_g (b := false) rfl rfl rfl rfl (fun k hk => hk) ?_
            refine ops_g (b := false) rfl rfl rfl rfl (fun k hk => hk) ?_
            refine ops_g (b := true) rfl rfl rfl rfl (fun k hk => hk) ?_
            refine ops_g (b := true) rfl rfl rfl rfl (fun k hk => ⟨_, rld', hk⟩) ?_
            refine ops_g (v := .bool false) (b := true) rfl rfl rfl rfl (fun k hk => say_ne_no hcalm hk) ?_
            refine ops_g (b := false) rfl rfl rfl rfl (fun k hk => hk) ?_
            refine ops_q rfl rfl (fun k hk => hk) ?_
            refine ops_q rfl rfl (fun k hk => hk) ?_
            refine ops_g (b := false) rfl rfl rfl rfl (fun k hk => hk) ?_
            refine ops_g (b := false) rfl rfl rfl rfl (fun k hk => ⟨_, rid', hk⟩) ?_
            refine ops_g (v := .bool false) (b := false) rfl rfl rfl rfl (fun k hk => say false (decide_eq_false (by omega)) hk) ?_
            refine ops_q rfl rfl (fun k hk => hk) ?_
            refine ops_q rfl rfl (fun k hk => hk) ?_
            refine ops_g (b := false) rfl rfl rfl rfl (fun k hk => hk) ?_
            refine ops_g (b := false) rfl rfl rfl rfl (fun k hk => ⟨_, rid', hk⟩) ?_
            refine ops_g (b := false) rfl rfl rfl rfl (fun k hk => hk) ?_
            refine ops_g (b := false) rfl rfl rfl rfl (fun k hk => ⟨_, gid', hk⟩) ?_
            refine ops_g (v := .bool false) (b := false) rfl rfl rfl rfl (fun k hk => say false (decide_eq_false (by omega)) hk) ?_
            refine ops_q rfl rfl (fun k hk => hk) ?_
            refine ops_q rfl rfl (fun k hk => hk) ?_
            refine ops_g (b := false) rfl rfl rfl rfl (fun k hk => hk) ?_
            refine ops_g (b := false) rfl rfl rfl rfl (fun k hk => ⟨_, rst', hk⟩) ?_
            refine ops_g (v := .bool false) (b := false) rfl rfl rfl rfl (fun k hk => say_ne_no h2 hk) ?_
            refine ops_g (b := false) rfl rfl rfl rfl (fun k hk => hk) ?_
            refine ops_skip (b := true) rfl rfl rfl ?_
            refine ops_skip (b := true) rfl rfl rfl ?_
            refine ops_skip (b := true) rfl rfl rfl ?_
            refine ops_g (b := false) rfl rfl rfl rfl (fun k hk => hk) ?_
            refine ops_q rfl rfl (fun k hk => hk) ?_
            refine cw_false rfl (cw_skip ?_)
            refine cw_seq (cw_region rfl ?_)
            conv => whnf
            refine ⟨_, rst', ?_⟩
            conv => whnf
            have x36 := x35.trans x6
            by_cases h5 : w.st = 5
            · refine cw_bne_no rfl h5 (cw_skip ?_)
              have hnl : isLive w = false := by cases hh : isLive w; rfl; exact absurd h5 (w4.1 hh)
              rw [hnl] at hcount
              refine cw_region rfl ?_
              exact ⟨t + 1, ⟨rfl, rfl, rfl, by show some (Value.int .i64 _) = some (Value.int .i64 _); rw [hcount]; simp, slot_i64 _ _ (by omega) (by omega), trivial⟩, ⟨by omega, x3.trans x36⟩, by omega⟩
            · refine cw_bne_yes rfl h5 ?_
              have hnl : isLive w = true := w4.2 h5
              rw [hnl] at hcount
              refine cw_region rfl ?_
              conv => whnf
              refine cw_region rfl ?_
              exact ⟨t + 1, ⟨rfl, rfl, rfl, slot_i64 _ _ (by rw [hcount]; simp) (by rw [hcount, if_pos rfl]; omega), slot_i64 _ _ (by omega) (by omega), trivial⟩, ⟨by omega, x3.trans x36⟩, by omega⟩
          · have hstill := hok.still h2
            refine ops_q rfl rfl (fun k hk => hk) ?_
            refine ops_q rfl rfl (fun k hk => hk) ?_
            refine ops_skip (b := true) rfl rfl rfl ?_
            refine ops_skip (b := true) rfl rfl rfl ?_
            refine ops_skip (b := true) rfl rfl rfl ?_
            refine ops_skip (b := true) rfl rfl rfl ?_
            refine ops_skipu rfl rfl rfl ?_
            refine ops_skipu rfl rfl rfl ?_
            refine ops_skipu rfl rfl rfl ?_
            refine ops_skipu rfl rfl rfl ?_
            refine ops_skipu rfl rfl rfl ?_
            refine ops_skip (b := true) rfl rfl rfl ?_
            refine ops_q rfl rfl (fun k hk => hk) ?_
            refine ops_q rfl rfl (fun k hk => hk) ?_
            refine ops_g (b := false) rfl rfl rfl rfl (fun k hk => hk) ?_
            refine ops_g (b := false) rfl rfl rfl rfl (fun k hk => hk) ?_
            refine ops_g (b := false) rfl rfl rfl rfl (fun k hk => hk) ?_
            refine ops_g (b := true) rfl rfl rfl rfl (fun k hk => hk) ?_
            refine ops_g (b := true) rfl rfl rfl rfl (fun k hk => ⟨_, rld', hk⟩) ?_
            refine ops_g (v := .bool false) (b := true) rfl rfl rfl rfl (fun k hk => say_ne_no hcalm hk) ?_
            refine ops_g (b := false) rfl rfl rfl rfl (fun k hk => hk) ?_
            refine ops_q rfl rfl (fun k hk => hk) ?_
            refine ops_q rfl rfl (fun k hk => hk) ?_
            refine ops_g (b := false) rfl rfl rfl rfl (fun k hk => hk) ?_
            refine ops_g (b := false) rfl rfl rfl rfl (fun k hk => ⟨_, rid', hk⟩) ?_
            refine ops_g (v := .bool false) (b := false) rfl rfl rfl rfl (fun k hk => say false (decide_eq_false (by omega)) hk) ?_
            refine ops_q rfl rfl (fun k hk => hk) ?_
            refine ops_q rfl rfl (fun k hk => hk) ?_
            refine ops_g (b := false) rfl rfl rfl rfl (fun k hk => hk) ?_
            refine ops_g (b := false) rfl rfl rfl rfl (fun k hk => ⟨_, rid', hk⟩) ?_
            refine ops_g (b := false) rfl rfl rfl rfl (fun k hk => hk) ?_
            refine ops_g (b := false) rfl rfl rfl rfl (fun k hk => ⟨_, gid', hk⟩) ?_
            refine ops_g (v := .bool false) (b := false) rfl rfl rfl rfl (fun k hk => say false (decide_eq_false (by omega)) hk) ?_
            refine ops_q rfl rfl (fun k hk => hk) ?_
            refine ops_q rfl rfl (fun k hk => hk) ?_
            refine ops_g (b := false) rfl rfl rfl rfl (fun k hk => hk) ?_
            refine ops_g (b := false) rfl rfl rfl rfl (fun k hk => ⟨_, rst', hk⟩) ?_
            refine ops_g (v := .bool true) (b := false) rfl rfl rfl rfl (fun k hk => say_ne h2 hk) ?_
            refine ops_g (b := false) rfl rfl rfl rfl (fun k hk => hk) ?_
            refine ops_g (b := true) rfl rfl rfl rfl (fun k hk => hk) ?_
            refine ops_g (b := true) rfl rfl rfl rfl (fun k hk => ⟨_, rid', hk⟩) ?_
            refine ops_g (v := .bool false) (b := true) rfl rfl rfl rfl (fun k hk => say_ne_no hstill hk) ?_
            refine ops_g (b := false) rfl rfl rfl rfl (fun k hk => hk) ?_
            refine ops_q rfl rfl (fun k hk => hk) ?_
            refine cw_false rfl (cw_skip ?_)
            refine cw_seq (cw_region rfl ?_)
            conv => whnf
            refine ⟨_, rst', ?_⟩
            conv => whnf
            have x36 := x35.trans x6
            by_cases h5 : w.st = 5
            · refine cw_bne_no rfl h5 (cw_skip ?_)
              have hnl : isLive w = false := by cases hh : isLive w; rfl; exact absurd h5 (w4.1 hh)
              rw [hnl] at hcount
              refine cw_region rfl ?_
              exact ⟨t + 1, ⟨rfl, rfl, rfl, by show some (Value.int .i64 _) = some (Value.int .i64 _); rw [hcount]; simp, slot_i64 _ _ (by omega) (by omega), trivial⟩, ⟨by omega, x3.trans x36⟩, by omega⟩
            · refine cw_bne_yes rfl h5 ?_
              have hnl : isLive w = true := w4.2 h5
              rw [hnl] at hcount
              refine cw_region rfl ?_
              conv => whnf
              refine cw_region rfl ?_
              exact ⟨t + 1, ⟨rfl, rfl, rfl, slot_i64 _ _ (by rw [hcount]; simp) (by rw [hcount, if_pos rfl]; omega), slot_i64 _ _ (by omega) (by omega), trivial⟩, ⟨by omega, x3.trans x36⟩, by omega⟩
        · refine head_q rfl rfl rfl rfl (fun k hk => hk) ?_
          refine head_q rfl rfl rfl rfl (fun k hk => ⟨_, rst, hk⟩) ?_
          refine head_q (v := .bool false) rfl rfl rfl rfl (fun k hk => say false (decide_eq_false (by omega)) hk) ?_
          refine head_q rfl rfl rfl rfl (fun k hk => hk) ?_
          refine head_g (b := false) rfl rfl rfl rfl rfl rfl (fun k hk => hk) ?_
          refine head_g (b := false) rfl rfl rfl rfl rfl rfl (fun k hk => ⟨_, rst, hk⟩) ?_
          refine head_g (v := .bool false) (b := false) rfl rfl rfl rfl rfl rfl (fun k hk => say false (decide_eq_false (by omega)) hk) ?_
          refine head_q rfl rfl rfl rfl (fun k hk => hk) ?_
          refine head_q rfl rfl rfl rfl (fun k hk => hk) ?_
          refine head_g (b := false) rfl rfl rfl rfl rfl rfl (fun k hk => hk) ?_
          refine head_g (b := false) rfl rfl rfl rfl rfl rfl (fun k hk => ⟨_, rsl, hk⟩) ?_
          refine head_g (v := .bool false) (b := false) rfl rfl rfl rfl rfl rfl (fun k hk => say false (decide_eq_false (by omega)) hk) ?_
          refine head_q rfl rfl rfl rfl (fun k hk => hk) ?_
          refine head_q rfl rfl rfl rfl (fun k hk => hk) ?_
          refine head_g (b := false) rfl rfl rfl rfl rfl rfl (fun k hk => hk) ?_
          refine head_g (b := false) rfl rfl rfl rfl rfl rfl (fun k hk => ⟨_, rsl, hk⟩) ?_
          refine head_g (b := false) rfl rfl rfl rfl rfl rfl (fun k hk => hk) ?_
          refine head_g (b := false) rfl rfl rfl rfl rfl rfl (fun k hk => ⟨_, gsl, hk⟩) ?_
          refine head_g (v := .bool false) (b := false) rfl rfl rfl rfl rfl rfl (fun k hk => say false (decide_eq_false (by omega)) hk) ?_
          refine head_q rfl rfl rfl rfl (fun k hk => hk) ?_
          refine head_q rfl rfl rfl rfl (fun k hk => hk) ?_
          refine head_g (b := false) rfl rfl rfl rfl rfl rfl (fun k hk => hk) ?_
          refine head_g (v := .bool false) (b := false) rfl rfl rfl rfl rfl rfl (fun k hk => say false (decide_eq_false ht0) hk) ?_
          refine head_g (b := false) rfl rfl rfl rfl rfl rfl (fun k hk => hk) ?_
          refine head_skip (b := true) rfl rfl rfl rfl ?_
          refine head_skip (b := true) rfl rfl rfl rfl ?_
          refine head_skip (b := true) rfl rfl rfl rfl ?_
          refine head_skip (b := true) rfl rfl rfl rfl ?_
          refine head_skip (b := true) rfl rfl rfl rfl ?_
          refine head_skip (b := true) rfl rfl rfl rfl ?_
          refine head_skip (b := true) rfl rfl rfl rfl ?_
          refine head_skip (b := true) rfl rfl rfl rfl ?_
          refine head_skip (b := true) rfl rfl rfl rfl ?_
          refine head_g (b := false) rfl rfl rfl rfl rfl rfl (fun k hk => hk) ?_
          refine head_q rfl rfl rfl rfl (fun k hk => hk) ?_
          refine head_q rfl rfl rfl rfl (fun k hk => hk) ?_
          refine head_g (b := false) rfl rfl rfl rfl rfl rfl (fun k hk => hk) ?_
          refine head_g (b := false) rfl rfl rfl rfl rfl rfl (fun k hk => ⟨_, rn, hk⟩) ?_
          refine head_g (v := .bool false) (b := false) rfl rfl rfl rfl rfl rfl (fun k hk => say false (decide_eq_false (by omega)) hk) ?_
          conv => whnf
          intro h6 x6
          refine ops_q rfl rfl (fun k hk => hk) ?_
          refine cw_false rfl (cw_skip ?_)
          have g6 := x6.blk g5
          have y6 := x6.blk y5
          have rst' := x6.rd rst
          have rsl' := x6.rd rsl
          have rn' := x6.rd rn
          have rld' := x6.rd rld
          have rid' := x6.rd rid
          have gid' := x6.rd gid
          refine cw_seq (cw_seq (cw_region rfl ?_))
          have hcalm := hok.calm hst
          by_cases h2 : w.st = 2
          · refine ops_q rfl rfl (fun k hk => hk) ?_
            refine ops_q rfl rfl (fun k hk => hk) ?_
            refine ops_skip (b := true) rfl rfl rfl ?_
            refine ops_skip (b := true) rfl rfl rfl ?_
            refine ops_skip (b := true) rfl rfl rfl ?_
            refine ops_skip (b := true) rfl rfl rfl ?_
            refine ops_skipu rfl rfl rfl ?_
            refine ops_skipu rfl rfl rfl ?_
            refine ops_skipu rfl rfl rfl ?_
            refine ops_skipu rfl rfl rfl ?_
            refine ops_skipu rfl rfl rfl ?_
            refine ops_skip (b := true) rfl rfl rfl ?_
            refine ops_q rfl rfl (fun k hk => hk) ?_
            refine ops_q rfl rfl (fun k hk => hk) ?_
            refine ops_g (b := false) rfl rfl rfl rfl (fun k hk => hk) ?_
            refine ops_g (b := false) rfl rfl rfl rfl (fun k hk => hk) ?_
            refine ops_g (b := false) rfl rfl rfl rfl (fun k hk => hk) ?_
            refine ops_g (b := true) rfl rfl rfl rfl (fun k hk => hk) ?_
            refine ops_g (b := true) rfl rfl rfl rfl (fun k hk => ⟨_, rld', hk⟩) ?_
            refine ops_g (v := .bool false) (b := true) rfl rfl rfl rfl (fun k hk => say_ne_no hcalm hk) ?_
            refine ops_g (b := false) rfl rfl rfl rfl (fun k hk => hk) ?_
            refine ops_q rfl rfl (fun k hk => hk) ?_
            refine ops_q rfl rfl (fun k hk => hk) ?_
            refine ops_g (b := false) rfl rfl rfl rfl (fun k hk => hk) ?_
            refine ops_g (b := false) rfl rfl rfl rfl (fun k hk => ⟨_, rid', hk⟩) ?_
            refine ops_g (v := .bool false) (b := false) rfl rfl rfl rfl (fun k hk => say false (decide_eq_false (by omega)) hk) ?_
            refine ops_q rfl rfl (fun k hk => hk) ?_
            refine ops_q rfl rfl (fun k hk => hk) ?_
            refine ops_g (b := false) rfl rfl rfl rfl (fun k hk => hk) ?_
            refine ops_g (b := false) rfl rfl rfl rfl (fun k hk => ⟨_, rid', hk⟩) ?_
            refine ops_g (b := false) rfl rfl rfl rfl (fun k hk => hk) ?_
            refine ops_g (b := false) rfl rfl rfl rfl (fun k hk => ⟨_, gid', hk⟩) ?_
            refine ops_g (v := .bool false) (b := false) rfl rfl rfl rfl (fun k hk => say false (decide_eq_false (by omega)) hk) ?_
            refine ops_q rfl rfl (fun k hk => hk) ?_
            refine ops_q rfl rfl (fun k hk => hk) ?_
            refine ops_g (b := false) rfl rfl rfl rfl (fun k hk => hk) ?_
            refine ops_g (b := false) rfl rfl rfl rfl (fun k hk => ⟨_, rst', hk⟩) ?_
            refine ops_g (v := .bool false) (b := false) rfl rfl rfl rfl (fun k hk => say_ne_no h2 hk) ?_
            refine ops_g (b := false) rfl rfl rfl rfl (fun k hk => hk) ?_
            refine ops_skip (b := true) rfl rfl rfl ?_
            refine ops_skip (b := true) rfl rfl rfl ?_
            refine ops_skip (b := true) rfl rfl rfl ?_
            refine ops_g (b := false) rfl rfl rfl rfl (fun k hk => hk) ?_
            refine ops_q rfl rfl (fun k hk => hk) ?_
            refine cw_false rfl (cw_skip ?_)
            refine cw_seq (cw_region rfl ?_)
            conv => whnf
            refine ⟨_, rst', ?_⟩
            conv => whnf
            have x36 := x35.trans x6
            by_cases h5 : w.st = 5
            · refine cw_bne_no rfl h5 (cw_skip ?_)
              have hnl : isLive w = false := by cases hh : isLive w; rfl; exact absurd h5 (w4.1 hh)
              rw [hnl] at hcount
              refine cw_region rfl ?_
              exact ⟨t + 1, ⟨rfl, rfl, rfl, by show some (Value.int .i64 _) = some (Value.int .i64 _); rw [hcount]; simp, slot_i64 _ _ (by omega) (by omega), trivial⟩, ⟨by omega, x3.trans x36⟩, by omega⟩
            · refine cw_bne_yes rfl h5 ?_
              have hnl : isLive w = true := w4.2 h5
              rw [hnl] at hcount
              refine cw_region rfl ?_
              conv => whnf
              refine cw_region rfl ?_
              exact ⟨t + 1, ⟨rfl, rfl, rfl, slot_i64 _ _ (by rw [hcount]; simp) (by rw [hcount, if_pos rfl]; omega), slot_i64 _ _ (by omega) (by omega), trivial⟩, ⟨by omega, x3.trans x36⟩, by omega⟩
          · have hstill := hok.still h2
            refine ops_q rfl rfl (fun k hk => hk) ?_
            refine ops_q rfl rfl (fun k hk => hk) ?_
            refine ops_skip (b := true) rfl rfl rfl ?_
            refine ops_skip (b := true) rfl rfl rfl ?_
            refine ops_skip (b := true) rfl rfl rfl ?_
            refine ops_skip (b := true) rfl rfl rfl ?_
            refine ops_skipu rfl rfl rfl ?_
            refine ops_skipu rfl rfl rfl ?_
            refine ops_skipu rfl rfl rfl ?_
            refine ops_skipu rfl rfl rfl ?_
            refine ops_skipu rfl rfl rfl ?_
            refine ops_skip (b := true) rfl rfl rfl ?_
            refine ops_q rfl rfl (fun k hk => hk) ?_
            refine ops_q rfl rfl (fun k hk => hk) ?_
            refine ops_g (b := false) rfl rfl rfl rfl (fun k hk => hk) ?_
            refine ops_g (b := false) rfl rfl rfl rfl (fun k hk => hk) ?_
            refine ops_g (b := false) rfl rfl rfl rfl (fun k hk => hk) ?_
            refine ops_g (b := true) rfl rfl rfl rfl (fun k hk => hk) ?_
            refine ops_g (b := true) rfl rfl rfl rfl (fun k hk => ⟨_, rld', hk⟩) ?_
            refine ops_g (v := .bool false) (b := true) rfl rfl rfl rfl (fun k hk => say_ne_no hcalm hk) ?_
            refine ops_g (b := false) rfl rfl rfl rfl (fun k hk => hk) ?_
            refine ops_q rfl rfl (fun k hk => hk) ?_
            refine ops_q rfl rfl (fun k hk => hk) ?_
            refine ops_g (b := false) rfl rfl rfl rfl (fun k hk => hk) ?_
            refine ops_g (b := false) rfl rfl rfl rfl (fun k hk => ⟨_, rid', hk⟩) ?_
            refine ops_g (v := .bool false) (b := false) rfl rfl rfl rfl (fun k hk => say false (decide_eq_false (by omega)) hk) ?_
            refine ops_q rfl rfl (fun k hk => hk) ?_
            refine ops_q rfl rfl (fun k hk => hk) ?_
            refine ops_g (b := false) rfl rfl rfl rfl (fun k hk => hk) ?_
            refine ops_g (b := false) rfl rfl rfl rfl (fun k hk => ⟨_, rid', hk⟩) ?_
            refine ops_g (b := false) rfl rfl rfl rfl (fun k hk => hk) ?_
            refine ops_g (b := false) rfl rfl rfl rfl (fun k hk => ⟨_, gid', hk⟩) ?_
            refine ops_g (v := .bool false) (b := false) rfl rfl rfl rfl (fun k hk => say false (decide_eq_false (by omega)) hk) ?_
            refine ops_q rfl rfl (fun k hk => hk) ?_
            refine ops_q rfl rfl (fun k hk => hk) ?_
            refine ops_g (b := false) rfl rfl rfl rfl (fun k hk => hk) ?_
            refine ops_g (b := false) rfl rfl rfl rfl (fun k hk => ⟨_, rst', hk⟩) ?_
            refine ops_g (v := .bool true) (b := false) rfl rfl rfl rfl (fun k hk => say_ne h2 hk) ?_
            refine ops_g (b := false) rfl rfl rfl rfl (fun k hk => hk) ?_
            refine ops_g (b := true) rfl rfl rfl rfl (fun k hk => hk) ?_
            refine ops_g (b := true) rfl rfl rfl rfl (fun k hk => ⟨_, rid', hk⟩) ?_
            refine ops_g (v := .bool false) (b := true) rfl rfl rfl rfl (fun k hk => say_ne_no hstill hk) ?_
            refine ops_g (b := false) rfl rfl rfl rfl (fun k hk => hk) ?_
            refine ops_q rfl rfl (fun k hk => hk) ?_
            refine cw_false rfl (cw_skip ?_)
            refine cw_seq (cw_region rfl ?_)
            conv => whnf
            refine ⟨_, rst', ?_⟩
            conv => whnf
            have x36 := x35.trans x6
            by_cases h5 : w.st = 5
            · refine cw_bne_no rfl h5 (cw_skip ?_)
              have hnl : isLive w = false := by cases hh : isLive w; rfl; exact absurd h5 (w4.1 hh)
              rw [hnl] at hcount
              refine cw_region rfl ?_
              exact ⟨t + 1, ⟨rfl, rfl, rfl, by show some (Value.int .i64 _) = some (Value.int .i64 _); rw [hcount]; simp, slot_i64 _ _ (by omega) (by omega), trivial⟩, ⟨by omega, x3.trans x36⟩, by omega⟩
            · refine cw_bne_yes rfl h5 ?_
              have hnl : isLive w = true := w4.2 h5
              rw [hnl] at hcount
              refine cw_region rfl ?_
              conv => whnf
              refine cw_region rfl ?_
              exact ⟨t + 1, ⟨rfl, rfl, rfl, slot_i64 _ _ (by rw [hcount]; simp) (by rw [hcount, if_pos rfl]; omega), slot_i64 _ _ (by omega) (by omega), trivial⟩, ⟨by omega, x3.trans x36⟩, by omega⟩
      --DIM
    · refine cw_no rfl (by show ¬ (t : Int) < _; omega) (cw_exit ?_)
      have tn : t = L.length := by omega
      subst tn
      rw [List.take_length, hcl]
      have hlive := I.live
      have N3 := N2.more x3
      refine cw_seq (cw_region rfl ?_)
      conv => whnf
      refine ⟨_, y3.rd (o := 0) rfl, ?_⟩
      refine ops_q (v := .bool true) rfl rfl (fun k hk => say true (decide_eq_true hlive) hk) ?_
      conv => whnf
      refine ⟨_, rfl, _, live_fn N3.at_ hwk, ?_⟩
      rintro _ h4 ⟨rfl, x4⟩
      refine ops_g (b := true) rfl rfl rfl rfl (fun k hk => hk) ?_
      refine ops_g (v := .bool true) (b := true) rfl rfl rfl rfl (fun k hk => say_eq rfl hk) ?_
      conv => whnf
      refine ⟨_, rfl, _, awake_fn h4, ?_⟩
      rintro _ h5 ⟨rfl, x5⟩
      conv => whnf
      exact cw_ret ⟨rfl, xa.trans ((N3.more x4).more x5).ext⟩
  · refine ⟨_, rfl, _, lived_no wk sl id hl (r.more xa), ?_⟩
    rintro _ h1 ⟨rfl, x1⟩
    conv => whnf
    refine cw_seq (cw_seq (cw_region rfl ?_))
    conv => whnf
    refine ⟨.bool true, fun w => by kernel_rfl, ?_⟩
    refine cw_true rfl ?_
    refine cw_seq (cw_region rfl ?_)
    conv => whnf
    refine ⟨_, rfl, _, awake_fn h1, ?_⟩
    rintro _ h2 ⟨rfl, x2⟩
    exact cw_ret ⟨rfl, (xa.trans x1).trans x2⟩
end Go.Proofs.Ytcmjgkjnnmfijaa
