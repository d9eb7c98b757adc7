/-
  The document's pool: Hello, Send, Done, Drain, Poison, Kill. Printed by tools/genref2.py.
-/
import Derived.Test.YtcmjgkjnnmfijaaPoolRef1
namespace Go.Proofs.Ytcmjgkjnnmfijaa
open Go Vm
set_option maxRecDepth 100000
set_option linter.unusedVariables false
set_option linter.unusedSimpArgs false
theorem store_ref {h : Heap} {b n c : Nat} {a : Option Addr} {x y z wk sl id : Int} {v : Value} {K : Heap → Prop} (hb : Blk h b (refC x y z v) 53) (H : ∀ h', Wrote h h' b (refC wk sl id (.slice a n c)) 53 → K h') :
    ∃ l t, Blk h b l t ∧ (0 + (refC wk sl id (.slice a n c)).toArray.size ≤ l.length ∧ (refC wk sl id (.slice a n c)).toArray.size = 4 ∧ ∀ x ∈ (refC wk sl id (.slice a n c)).toArray.toList, x.oneCell' = true) ∧ ∀ h', Wrote h h' b (splice l 0 (refC wk sl id (.slice a n c)).toArray.toList) t → K h' :=
  ⟨_, _, hb, ⟨by show 4 ≤ 4; decide, rfl, by simp [refC, Value.oneCell']⟩, fun h' w => H h' (w.cast (by rfl))⟩
theorem rlook_no {ws : List Wk} {n : Int} (h : n < 1 ∨ (ws.length : Int) < n) : rlookS ws n = (zeroW, 260) := by unfold rlookS; rw [if_pos h]
theorem rlook_yes {ws : List Wk} {i : Nat} {w : Wk} (hw : ws[i]? = some w) : rlookS ws ((i : Int) + 1) = (w, 0) := by
  have hil := (List.getElem?_eq_some_iff.1 hw).1
  unfold rlookS
  rw [if_neg (by omega), show ((i : Int) + 1).toNat - 1 = i by omega, List.getD_eq_getElem?_getD, hw]
  rfl
theorem find_no {ws : List Wk} {n : Int} (h : n < 1 ∨ (ws.length : Int) < n) (l : List Int) : findE ws n l = 260 := by unfold findE; rw [if_pos h]
theorem find_in {ws : List Wk} {i : Nat} {w : Wk} (hw : ws[i]? = some w) {l : List Int} (h : w.st ∈ l) : findE ws ((i : Int) + 1) l = 0 := by rw [find_at hw, if_pos h]
theorem find_out {ws : List Wk} {i : Nat} {w : Wk} (hw : ws[i]? = some w) {l : List Int} (h : w.st ∉ l) : findE ws ((i : Int) + 1) l = 261 := by rw [find_at hw, if_neg h]
theorem place {ws : List Wk} {n : Int} (h : ¬ (n < 1 ∨ (ws.length : Int) < n)) : ∃ (i : Nat) (w : Wk), n = (i : Int) + 1 ∧ ws[i]? = some w := by
  obtain ⟨i, hi⟩ : ∃ i : Nat, n = (i : Int) + 1 := ⟨(n - 1).toNat, by omega⟩
  have hil : i < ws.length := by omega
  exact ⟨i, ws[i], hi, List.getElem?_eq_getElem hil⟩
theorem rlook_key {ws : List Wk} (hk : keysOk ws) (n : Int) : (rlookS ws n).1.key.length = 32 := by
  by_cases h : n < 1 ∨ (ws.length : Int) < n
  · rw [rlook_no h]; exact zeroW_key
  · obtain ⟨i, w, rfl, hw⟩ := place h
    rw [rlook_yes hw]
    exact keysOk_get hk hw

theorem rhello_fn {h : Heap} {wv : Value} {wk sl id : Int} {ws : List Wk} (n : Int) (o : OW h wv ws) (kk : keysOk ws) (I : Inv wk sl id ws) (hs : ws.length ≤ 1000000000) :
    Fx Try.prog 41 #[.agg (refC wk sl id wv).toArray, .int .i64 n] h fun u h' => ∃ wv', u = .tuple #[.agg (refC wk sl id wv').toArray, .int .i64 (helloS ws n).2] ∧ OW h' wv' (helloS ws n).1 ∧ ExtH h h' ∧ ∀ b, ob wv' b → ob wv b ∨ h.size ≤ b := by
  refine fn_of 26 Try.func41 rfl (by kernel_rfl) rfl (by simp) ?_
  obtain ⟨va, vc, hve, hvm⟩ := o.fix
  subst hve
  have hmax : maxLen < 9223372036854775808 := by decide
  refine cw_seq (cw_region rfl ?_)
  conv => whnf
  intro h1 n1
  have y1 : Blk h1 h.size (refC wk sl id (.slice va ws.length vc)) 53 := n1.blk
  have x1 := n1.ext
  have z1 := n1.size
  clear n1
  conv => whnf
  intro h2 n2
  have yr : Blk h2 h1.size (refC 0 0 0 (.slice none 0 0)) 53 := n2.blk
  have x2 := n2.ext
  have z2 := n2.size
  clear n2
  replace y1 := x2.blk y1
  conv => whnf
  refine cw_seq (cw_region rfl ?_)
  conv => whnf
  refine ⟨refC wk sl id (.slice va ws.length vc), rfl, y1.all, ?_⟩
  conv => whnf
  refine ⟨_, rfl, _, rlook_fn n ((o.more x1).more x2) kk, ?_⟩
  rintro _ h3 ⟨rfl, x3⟩
  have hkl := rlook_key kk n
  conv => whnf
  intro h4 n4
  conv => whnf
  refine store_wk (a := zeroW) n4.blk zeroW_key hkl ?_
  intro h5 w5
  have z3 := x3.size
  have z4 := n4.size
  have z5 := w5.size
  have x35 : ExtH h3 h5 := ⟨by omega, fun b hb => by rw [w5.block b (by omega), n4.block b hb]⟩
  have y5 := w5.new
  clear n4 w5
  replace y1 := x35.blk (x3.blk y1)
  replace yr := x35.blk (x3.blk yr)
  have o5 := (((o.more x1).more x2).more x3).more x35
  have x05 := ((x1.trans x2).trans x3).trans x35
  conv => whnf
  refine cw_seq (cw_seq (cw_region rfl ?_))
  by_cases hr : n < 1 ∨ (ws.length : Int) < n

  · have es : helloS ws n = (ws, 260) := by unfold helloS; rw [find_no hr]; rfl
    refine cw_bne_yes rfl (by rw [rlook_no hr]; decide) ?_
    refine cw_seq (cw_region rfl ?_)
    conv => whnf
    refine ⟨refC wk sl id (.slice va ws.length vc), rfl, y1.all, ?_⟩
    conv => whnf
    refine store_ref yr ?_
    intro h6 w6
    have z6 := w6.size
    refine cw_ret ?_
    conv => whnf
    rw [es]
    exact ⟨_, rfl, w6.new.all, _, by show one [_, .int .i64 (rlookS ws n).2] = _; rw [rlook_no hr]; rfl, OwnS.keep o5 w6.chg (fun b hb e => by subst e; exact OwnS.ne o5 yr (by decide) hb), ⟨by omega, fun b hb => by rw [w6.block b (by omega), x05.block b hb]⟩, fun b hb => .inl hb⟩

  · obtain ⟨i, w, rfl, hw⟩ := place hr
    rw [rlook_yes hw] at y5 hkl
    have hok := I.ok (List.mem_of_getElem? hw)
    have hnum := I.num i w hw
    have hlim := I.lim
    unfold okLim at hlim
    have hil := (List.getElem?_eq_some_iff.1 hw).1
    simp only at y5 hkl
    refine cw_bne_no rfl (by rw [rlook_yes hw]) (cw_skip ?_)

    refine cw_seq (cw_seq (cw_region rfl ?_))
    conv => whnf
    refine ⟨_, y5.rd (o := 1) rfl, ?_⟩
    conv => whnf
    by_cases h1' : w.st = 1
    · have es : helloS ws ((i : Int) + 1) = (ws.set i { w with st := 2 }, 0) := by
        unfold helloS
        have hc := hok.calm (by omega)
        have hi0 := hok.still (by omega)
        rw [if_pos (find_in hw (by simp [h1'])), atN_eq rfl hw, upN_eq rfl]
        have : ({ w with st := 2, ld := 0, id := 0 } : Wk) = { w with st := 2 } := by cases w; simp_all
        rw [this]
      refine cw_bne_no rfl h1' (cw_skip ?_)
      refine cw_seq (cw_region rfl ?_)
      conv => whnf
      refine ⟨_, _, y5, by show 1 < (wkC _).length; exact Nat.lt_of_lt_of_eq (show 1 < 37 by decide) (wkC_length (by exact hkl)).symm, ?_⟩
      intro h6 w6
      replace w6 := w6.cast (l' := wkC { w with st := 2 }) (wkC_st w 2)
      have z6 := w6.size
      have y6 := w6.new
      replace y1 := w6.blk y1 (by omega)
      replace yr := w6.blk yr (by omega)
      replace o5 := OwnS.keep o5 w6.chg (fun b hb e => by have := OwnS.lt o hb; omega)
      have xL : ExtH h h6 := ⟨by omega, fun b hb => by rw [w6.block b (by omega), x05.block b hb]⟩
      refine cw_seq (cw_region rfl ?_)
      conv => whnf
      refine ⟨refC wk sl id (.slice va ws.length vc), rfl, y1.all, ?_⟩
      conv => whnf
      refine ⟨wkC { w with st := 2 }, (wkC_length (w := { w with st := 2 }) hkl).trans rfl, y6.all, ?_⟩
      conv => whnf
      refine ⟨_, rfl, _, rwith_fn (w := { w with st := 2 }) o5 kk hs hw hkl hnum, ?_⟩
      rintro _ h20 ⟨wv', rfl, o20, x20, f20⟩
      obtain ⟨a20, c20, e20, _⟩ := OW.fix o20
      subst e20
      have z20 := x20.size
      replace yr := x20.blk yr
      conv => whnf
      refine store_ref yr ?_
      intro h21 w21
      have z21 := w21.size
      refine cw_ret ?_
      conv => whnf
      rw [es]
      refine ⟨_, rfl, w21.new.all, _, rfl, ?_, ⟨by omega, fun b hb => by rw [w21.block b (by omega), x20.block b (by omega), xL.block b hb]⟩, fun b hb => .inr (by have := f20 b hb; omega)⟩
      have := OwnS.keep o20 w21.chg (fun b hb e => by subst e; exact OwnS.ne o20 yr (by decide) hb)
      first | exact this | (simpa [upN_eq] using this)
    · have es : helloS ws ((i : Int) + 1) = (ws, 261) := by
        unfold helloS
        have e := find_out hw (l := [1]) (by simp [h1'])
        rw [if_neg (by rw [e]; decide), e]
      refine cw_bne_yes rfl h1' ?_
      refine cw_seq (cw_region rfl ?_)
      conv => whnf
      refine ⟨refC wk sl id (.slice va ws.length vc), rfl, y1.all, ?_⟩
      conv => whnf
      refine store_ref yr ?_
      intro h6 w6
      have z6 := w6.size
      refine cw_ret ?_
      conv => whnf
      rw [es]
      exact ⟨_, rfl, w6.new.all, _, rfl, OwnS.keep o5 w6.chg (fun b hb e => by subst e; exact OwnS.ne o5 yr (by decide) hb), ⟨by omega, fun b hb => by rw [w6.block b (by omega), x05.block b hb]⟩, fun b hb => .inl hb⟩
theorem rsend_fn {h : Heap} {wv : Value} {wk sl id : Int} {ws : List Wk} (n : Int) (o : OW h wv ws) (kk : keysOk ws) (I : Inv wk sl id ws) (hs : ws.length ≤ 1000000000) :
    Fx Try.prog 42 #[.agg (refC wk sl id wv).toArray, .int .i64 n] h fun u h' => ∃ wv', u = .tuple #[.agg (refC wk sl id wv').toArray, .int .i64 (sendS ws n).2] ∧ OW h' wv' (sendS ws n).1 ∧ ExtH h h' ∧ ∀ b, ob wv' b → ob wv b ∨ h.size ≤ b := by
  refine fn_of 42 Try.func42 rfl (by kernel_rfl) rfl (by simp) ?_
  obtain ⟨va, vc, hve, hvm⟩ := o.fix
  subst hve
  have hmax : maxLen < 9223372036854775808 := by decide
  refine cw_seq (cw_region rfl ?_)
  conv => whnf
  intro h1 n1
  have y1 : Blk h1 h.size (refC wk sl id (.slice va ws.length vc)) 53 := n1.blk
  have x1 := n1.ext
  have z1 := n1.size
  clear n1
  conv => whnf
  intro h2 n2
  have yr : Blk h2 h1.size (refC 0 0 0 (.slice none 0 0)) 53 := n2.blk
  have x2 := n2.ext
  have z2 := n2.size
  clear n2
  replace y1 := x2.blk y1
  conv => whnf
  refine cw_seq (cw_region rfl ?_)
  conv => whnf
  refine ⟨refC wk sl id (.slice va ws.length vc), rfl, y1.all, ?_⟩
  conv => whnf
  refine ⟨_, rfl, _, rlook_fn n ((o.more x1).more x2) kk, ?_⟩
  rintro _ h3 ⟨rfl, x3⟩
  have hkl := rlook_key kk n
  conv => whnf
  intro h4 n4
  conv => whnf
  refine store_wk (a := zeroW) n4.blk zeroW_key hkl ?_
  intro h5 w5
  have z3 := x3.size
  have z4 := n4.size
  have z5 := w5.size
  have x35 : ExtH h3 h5 := ⟨by omega, fun b hb => by rw [w5.block b (by omega), n4.block b hb]⟩
  have y5 := w5.new
  clear n4 w5
  replace y1 := x35.blk (x3.blk y1)
  replace yr := x35.blk (x3.blk yr)
  have o5 := (((o.more x1).more x2).more x3).more x35
  have x05 := ((x1.trans x2).trans x3).trans x35
  conv => whnf
  refine cw_seq (cw_seq (cw_region rfl ?_))
  by_cases hr : n < 1 ∨ (ws.length : Int) < n

  · have es : sendS ws n = (ws, 260) := by unfold sendS; rw [find_no hr]; rfl
    refine cw_bne_yes rfl (by rw [rlook_no hr]; decide) ?_
    refine cw_seq (cw_region rfl ?_)
    conv => whnf
    refine ⟨refC wk sl id (.slice va ws.length vc), rfl, y1.all, ?_⟩
    conv => whnf
    refine store_ref yr ?_
    intro h6 w6
    have z6 := w6.size
    refine cw_ret ?_
    conv => whnf
    rw [es]
    exact ⟨_, rfl, w6.new.all, _, by show one [_, .int .i64 (rlookS ws n).2] = _; rw [rlook_no hr]; rfl, OwnS.keep o5 w6.chg (fun b hb e => by subst e; exact OwnS.ne o5 yr (by decide) hb), ⟨by omega, fun b hb => by rw [w6.block b (by omega), x05.block b hb]⟩, fun b hb => .inl hb⟩

  · obtain ⟨i, w, rfl, hw⟩ := place hr
    rw [rlook_yes hw] at y5 hkl
    have hok := I.ok (List.mem_of_getElem? hw)
    have hnum := I.num i w hw
    have hlim := I.lim
    unfold okLim at hlim
    have hil := (List.getElem?_eq_some_iff.1 hw).1
    simp only at y5 hkl
    refine cw_bne_no rfl (by rw [rlook_yes hw]) (cw_skip ?_)

    refine cw_seq (cw_seq (cw_region rfl ?_))
    conv => whnf
    refine ⟨_, y5.rd (o := 1) rfl, ?_⟩
    by_cases h2' : w.st = 2
    · have hst : w.st = 2 ∨ w.st = 3 := .inl h2'
      refine ops_q (v := .bool false) rfl rfl (fun k hk => say_ne_no h2' hk) ?_
      conv => whnf
      refine cw_false rfl (cw_skip ?_)
      refine cw_seq (cw_seq (cw_region rfl ?_))
      conv => whnf
      refine ⟨_, y5.rd (wkC_get_ld hkl), ?_⟩
      conv => whnf
      refine ⟨_, y5.rd (o := 2) rfl, ?_⟩
      conv => whnf
      have hb := I.get hw
      by_cases hfull : w.sl ≤ w.ld
      · have es : sendS ws ((i : Int) + 1) = (ws, 7) := by
          unfold sendS
          rw [if_pos (find_in hw (by simp [hst])), atN_eq rfl hw, if_pos hfull]
        refine cw_yes rfl hfull ?_
        refine cw_seq (cw_region rfl ?_)
        conv => whnf
        refine ⟨refC wk sl id (.slice va ws.length vc), rfl, y1.all, ?_⟩
        conv => whnf
        refine store_ref yr ?_
        intro h6 w6
        have z6 := w6.size
        refine cw_ret ?_
        conv => whnf
        rw [es]
        exact ⟨_, rfl, w6.new.all, _, rfl, OwnS.keep o5 w6.chg (fun b hb e => by subst e; exact OwnS.ne o5 yr (by decide) hb), ⟨by omega, fun b hb => by rw [w6.block b (by omega), x05.block b hb]⟩, fun b hb => .inl hb⟩
      · have es : sendS ws ((i : Int) + 1) = (ws.set i { w with st := 3, ld := w.ld + 1, id := 0 }, 0) := by
          unfold sendS
          rw [if_pos (find_in hw (by simp [hst])), atN_eq rfl hw, if_neg hfull, upN_eq rfl]
        refine cw_no rfl hfull (cw_skip ?_)
        refine cw_seq (cw_region rfl ?_)
        conv => whnf
        refine ⟨_, _, y5, by show 1 < (wkC _).length; exact Nat.lt_of_lt_of_eq (show 1 < 37 by decide) (wkC_length (by exact hkl)).symm, ?_⟩
        intro h6 w6
        replace w6 := w6.cast (l' := wkC { w with st := 3 }) (wkC_st w 3)
        have z6 := w6.size
        have y6 := w6.new
        conv => whnf
        refine ⟨_, _, y6, by show 36 < (wkC _).length; exact Nat.lt_of_lt_of_eq (show 36 < 37 by decide) (wkC_length (by exact hkl)).symm, ?_⟩
        intro h7 w7
        replace w7 := w7.cast (l' := wkC { w with st := 3, id := 0 }) (wkC_id (w := { w with st := 3 }) hkl 0)
        have z7 := w7.size
        have y7 := w7.new
        refine cw_seq (cw_region rfl ?_)
        conv => whnf
        refine ⟨_, y7.rd (wkC_get_ld (w := { w with st := 3, id := 0 }) hkl), ?_⟩
        conv => whnf
        rw [i64_in (w.ld + 1) (by omega) (by omega)]
        refine ⟨_, _, y7, by show 35 < (wkC _).length; exact Nat.lt_of_lt_of_eq (show 35 < 37 by decide) (wkC_length (by exact hkl)).symm, ?_⟩
        intro h8 w8
        replace w8 := w8.cast (l' := wkC { w with st := 3, ld := w.ld + 1, id := 0 }) (wkC_ld (w := { w with st := 3, id := 0 }) hkl (w.ld + 1))
        have z8 := w8.size
        have y8 := w8.new
        replace y1 := w6.blk y1 (by omega)
        replace yr := w6.blk yr (by omega)
        replace o5 := OwnS.keep o5 w6.chg (fun b hb e => by have := OwnS.lt o hb; omega)
        replace y1 := w7.blk y1 (by omega)
        replace yr := w7.blk yr (by omega)
        replace o5 := OwnS.keep o5 w7.chg (fun b hb e => by have := OwnS.lt o hb; omega)
        replace y1 := w8.blk y1 (by omega)
        replace yr := w8.blk yr (by omega)
        replace o5 := OwnS.keep o5 w8.chg (fun b hb e => by have := OwnS.lt o hb; omega)
        have xL : ExtH h h8 := ⟨by omega, fun b hb => by rw [w8.block b (by omega), w7.block b (by omega), w6.block b (by omega), x05.block b hb]⟩
        refine cw_seq (cw_region rfl ?_)
        conv => whnf
        refine ⟨refC wk sl id (.slice va ws.length vc), rfl, y1.all, ?_⟩
        conv => whnf
        refine ⟨wkC { w with st := 3, ld := w.ld + 1, id := 0 }, (wkC_length (w := { w with st := 3, ld := w.ld + 1, id := 0 }) hkl).trans rfl, y8.all, ?_⟩
        conv => whnf
        refine ⟨_, rfl, _, rwith_fn (w := { w with st := 3, ld := w.ld + 1, id := 0 }) o5 kk hs hw hkl hnum, ?_⟩
        rintro _ h20 ⟨wv', rfl, o20, x20, f20⟩
        obtain ⟨a20, c20, e20, _⟩ := OW.fix o20
        subst e20
        have z20 := x20.size
        replace yr := x20.blk yr
        conv => whnf
        refine store_ref yr ?_
        intro h21 w21
        have z21 := w21.size
        refine cw_ret ?_
        conv => whnf
        rw [es]
        refine ⟨_, rfl, w21.new.all, _, rfl, ?_, ⟨by omega, fun b hb => by rw [w21.block b (by omega), x20.block b (by omega), xL.block b hb]⟩, fun b hb => .inr (by have := f20 b hb; omega)⟩
        have := OwnS.keep o20 w21.chg (fun b hb e => by subst e; exact OwnS.ne o20 yr (by decide) hb)
        first | exact this | (simpa [upN_eq] using this)
    · refine ops_q (v := .bool true) rfl rfl (fun k hk => say_ne h2' hk) ?_
      conv => whnf
      refine ⟨_, y5.rd (o := 1) rfl, ?_⟩
      conv => whnf
      by_cases h3' : w.st = 3
      · have hst : w.st = 2 ∨ w.st = 3 := .inr h3'
        refine cw_bne_no rfl h3' (cw_skip ?_)
        refine cw_seq (cw_seq (cw_region rfl ?_))
        conv => whnf
        refine ⟨_, y5.rd (wkC_get_ld hkl), ?_⟩
        conv => whnf
        refine ⟨_, y5.rd (o := 2) rfl, ?_⟩
        conv => whnf
        have hb := I.get hw
        by_cases hfull : w.sl ≤ w.ld
        · have es : sendS ws ((i : Int) + 1) = (ws, 7) := by
            unfold sendS
            rw [if_pos (find_in hw (by simp [hst])), atN_eq rfl hw, if_pos hfull]
          refine cw_yes rfl hfull ?_
          refine cw_seq (cw_region rfl ?_)
          conv => whnf
          refine ⟨refC wk sl id (.slice va ws.length vc), rfl, y1.all, ?_⟩
          conv => whnf
          refine store_ref yr ?_
          intro h6 w6
          have z6 := w6.size
          refine cw_ret ?_
          conv => whnf
          rw [es]
          exact ⟨_, rfl, w6.new.all, _, rfl, OwnS.keep o5 w6.chg (fun b hb e => by subst e; exact OwnS.ne o5 yr (by decide) hb), ⟨by omega, fun b hb => by rw [w6.block b (by omega), x05.block b hb]⟩, fun b hb => .inl hb⟩
        · have es : sendS ws ((i : Int) + 1) = (ws.set i { w with st := 3, ld := w.ld + 1, id := 0 }, 0) := by
            unfold sendS
            rw [if_pos (find_in hw (by simp [hst])), atN_eq rfl hw, if_neg hfull, upN_eq rfl]
          refine cw_no rfl hfull (cw_skip ?_)
          refine cw_seq (cw_region rfl ?_)
          conv => whnf
          refine ⟨_, _, y5, by show 1 < (wkC _).length; exact Nat.lt_of_lt_of_eq (show 1 < 37 by decide) (wkC_length (by exact hkl)).symm, ?_⟩
          intro h6 w6
          replace w6 := w6.cast (l' := wkC { w with st := 3 }) (wkC_st w 3)
          have z6 := w6.size
          have y6 := w6.new
          conv => whnf
          refine ⟨_, _, y6, by show 36 < (wkC _).length; exact Nat.lt_of_lt_of_eq (show 36 < 37 by decide) (wkC_length (by exact hkl)).symm, ?_⟩
          intro h7 w7
          replace w7 := w7.cast (l' := wkC { w with st := 3, id := 0 }) (wkC_id (w := { w with st := 3 }) hkl 0)
          have z7 := w7.size
          have y7 := w7.new
          refine cw_seq (cw_region rfl ?_)
          conv => whnf
          refine ⟨_, y7.rd (wkC_get_ld (w := { w with st := 3, id := 0 }) hkl), ?_⟩
          conv => whnf
          rw [i64_in (w.ld + 1) (by omega) (by omega)]
          refine ⟨_, _, y7, by show 35 < (wkC _).length; exact Nat.lt_of_lt_of_eq (show 35 < 37 by decide) (wkC_length (by exact hkl)).symm, ?_⟩
          intro h8 w8
          replace w8 := w8.cast (l' := wkC { w with st := 3, ld := w.ld + 1, id := 0 }) (wkC_ld (w := { w with st := 3, id := 0 }) hkl (w.ld + 1))
          have z8 := w8.size
          have y8 := w8.new
          replace y1 := w6.blk y1 (by omega)
          replace yr := w6.blk yr (by omega)
          replace o5 := OwnS.keep o5 w6.chg (fun b hb e => by have := OwnS.lt o hb; omega)
          replace y1 := w7.blk y1 (by omega)
          replace yr := w7.blk yr (by omega)
          replace o5 := OwnS.keep o5 w7.chg (fun b hb e => by have := OwnS.lt o hb; omega)
          replace y1 := w8.blk y1 (by omega)
          replace yr := w8.blk yr (by omega)
          replace o5 := OwnS.keep o5 w8.chg (fun b hb e => by have := OwnS.lt o hb; omega)
          have xL : ExtH h h8 := ⟨by omega, fun b hb => by rw [w8.block b (by omega), w7.block b (by omega), w6.block b (by omega), x05.block b hb]⟩
          refine cw_seq (cw_region rfl ?_)
          conv => whnf
          refine ⟨refC wk sl id (.slice va ws.length vc), rfl, y1.all, ?_⟩
          conv => whnf
          refine ⟨wkC { w with st := 3, ld := w.ld + 1, id := 0 }, (wkC_length (w := { w with st := 3, ld := w.ld + 1, id := 0 }) hkl).trans rfl, y8.all, ?_⟩
          conv => whnf
          refine ⟨_, rfl, _, rwith_fn (w := { w with st := 3, ld := w.ld + 1, id := 0 }) o5 kk hs hw hkl hnum, ?_⟩
          rintro _ h20 ⟨wv', rfl, o20, x20, f20⟩
          obtain ⟨a20, c20, e20, _⟩ := OW.fix o20
          subst e20
          have z20 := x20.size
          replace yr := x20.blk yr
          conv => whnf
          refine store_ref yr ?_
          intro h21 w21
          have z21 := w21.size
          refine cw_ret ?_
          conv => whnf
          rw [es]
          refine ⟨_, rfl, w21.new.all, _, rfl, ?_, ⟨by omega, fun b hb => by rw [w21.block b (by omega), x20.block b (by omega), xL.block b hb]⟩, fun b hb => .inr (by have := f20 b hb; omega)⟩
          have := OwnS.keep o20 w21.chg (fun b hb e => by subst e; exact OwnS.ne o20 yr (by decide) hb)
          first | exact this | (simpa [upN_eq] using this)
      · have es : sendS ws ((i : Int) + 1) = (ws, 261) := by
          unfold sendS
          have e := find_out hw (l := [2, 3]) (by simp [h2', h3'])
          rw [if_neg (by rw [e]; decide), e]
        refine cw_bne_yes rfl h3' ?_
        refine cw_seq (cw_region rfl ?_)
        conv => whnf
        refine ⟨refC wk sl id (.slice va ws.length vc), rfl, y1.all, ?_⟩
        conv => whnf
        refine store_ref yr ?_
        intro h6 w6
        have z6 := w6.size
        refine cw_ret ?_
        conv => whnf
        rw [es]
        exact ⟨_, rfl, w6.new.all, _, rfl, OwnS.keep o5 w6.chg (fun b hb e => by subst e; exact OwnS.ne o5 yr (by decide) hb), ⟨by omega, fun b hb => by rw [w6.block b (by omega), x05.block b hb]⟩, fun b hb => .inl hb⟩
theorem rdone_fn {h : Heap} {wv : Value} {wk sl id : Int} {ws : List Wk} (n : Int) (o : OW h wv ws) (kk : keysOk ws) (I : Inv wk sl id ws) (hs : ws.length ≤ 1000000000) :
    Fx Try.prog 43 #[.agg (refC wk sl id wv).toArray, .int .i64 n] h fun u h' => ∃ wv', u = .tuple #[.agg (refC wk sl id wv').toArray, .int .i64 (doneS ws n).2] ∧ OW h' wv' (doneS ws n).1 ∧ ExtH h h' ∧ ∀ b, ob wv' b → ob wv b ∨ h.size ≤ b := by
  refine fn_of 47 Try.func43 rfl (by kernel_rfl) rfl (by simp) ?_
  obtain ⟨va, vc, hve, hvm⟩ := o.fix
  subst hve
  have hmax : maxLen < 9223372036854775808 := by decide
  refine cw_seq (cw_region rfl ?_)
  conv => whnf
  intro h1 n1
  have y1 : Blk h1 h.size (refC wk sl id (.slice va ws.length vc)) 53 := n1.blk
  have x1 := n1.ext
  have z1 := n1.size
  clear n1
  conv => whnf
  intro h2 n2
  have yr : Blk h2 h1.size (refC 0 0 0 (.slice none 0 0)) 53 := n2.blk
  have x2 := n2.ext
  have z2 := n2.size
  clear n2
  replace y1 := x2.blk y1
  conv => whnf
  refine cw_seq (cw_region rfl ?_)
  conv => whnf
  refine ⟨refC wk sl id (.slice va ws.length vc), rfl, y1.all, ?_⟩
  conv => whnf
  refine ⟨_, rfl, _, rlook_fn n ((o.more x1).more x2) kk, ?_⟩
  rintro _ h3 ⟨rfl, x3⟩
  have hkl := rlook_key kk n
  conv => whnf
  intro h4 n4
  conv => whnf
  refine store_wk (a := zeroW) n4.blk zeroW_key hkl ?_
  intro h5 w5
  have z3 := x3.size
  have z4 := n4.size
  have z5 := w5.size
  have x35 : ExtH h3 h5 := ⟨by omega, fun b hb => by rw [w5.block b (by omega), n4.block b hb]⟩
  have y5 := w5.new
  clear n4 w5
  replace y1 := x35.blk (x3.blk y1)
  replace yr := x35.blk (x3.blk yr)
  have o5 := (((o.more x1).more x2).more x3).more x35
  have x05 := ((x1.trans x2).trans x3).trans x35
  conv => whnf
  refine cw_seq (cw_seq (cw_region rfl ?_))
  by_cases hr : n < 1 ∨ (ws.length : Int) < n

  · have es : doneS ws n = (ws, 260) := by unfold doneS; rw [find_no hr]; rfl
    refine cw_bne_yes rfl (by rw [rlook_no hr]; decide) ?_
    refine cw_seq (cw_region rfl ?_)
    conv => whnf
    refine ⟨refC wk sl id (.slice va ws.length vc), rfl, y1.all, ?_⟩
    conv => whnf
    refine store_ref yr ?_
    intro h6 w6
    have z6 := w6.size
    refine cw_ret ?_
    conv => whnf
    rw [es]
    exact ⟨_, rfl, w6.new.all, _, by show one [_, .int .i64 (rlookS ws n).2] = _; rw [rlook_no hr]; rfl, OwnS.keep o5 w6.chg (fun b hb e => by subst e; exact OwnS.ne o5 yr (by decide) hb), ⟨by omega, fun b hb => by rw [w6.block b (by omega), x05.block b hb]⟩, fun b hb => .inl hb⟩

  · obtain ⟨i, w, rfl, hw⟩ := place hr
    rw [rlook_yes hw] at y5 hkl
    have hok := I.ok (List.mem_of_getElem? hw)
    have hnum := I.num i w hw
    have hlim := I.lim
    unfold okLim at hlim
    have hil := (List.getElem?_eq_some_iff.1 hw).1
    simp only at y5 hkl
    refine cw_bne_no rfl (by rw [rlook_yes hw]) (cw_skip ?_)

    refine cw_seq (cw_seq (cw_region rfl ?_))
    conv => whnf
    refine ⟨_, y5.rd (o := 1) rfl, ?_⟩
    by_cases h3' : w.st = 3
    · have hst : w.st = 3 ∨ w.st = 4 := .inl h3'
      refine ops_q (v := .bool false) rfl rfl (fun k hk => say_ne_no h3' hk) ?_
      conv => whnf
      refine cw_false rfl (cw_skip ?_)
      have hbz := hok.busy hst
      have hb := I.get hw
      have hi0 := hok.still (by omega)
      refine cw_seq (cw_region rfl ?_)
      conv => whnf
      refine ⟨_, y5.rd (wkC_get_ld hkl), ?_⟩
      conv => whnf
      rw [i64_in (w.ld - 1) (by omega) (by omega)]
      refine ⟨_, _, y5, by show 35 < (wkC _).length; exact Nat.lt_of_lt_of_eq (show 35 < 37 by decide) (wkC_length (by exact hkl)).symm, ?_⟩
      intro h6 w6
      replace w6 := w6.cast (l' := wkC { w with ld := w.ld - 1 }) (wkC_ld hkl (w.ld - 1))
      have z6 := w6.size
      have y6 := w6.new
      refine cw_seq (cw_seq (cw_region rfl ?_))
      conv => whnf
      refine ⟨_, y6.rd (wkC_get_ld (w := { w with ld := w.ld - 1 }) hkl), ?_⟩
      by_cases hz : w.ld - 1 = 0
      · refine ops_q (v := .bool true) rfl rfl (fun k hk => say_eq hz hk) ?_
        conv => whnf
        refine ⟨_, y6.rd (o := 1) (v := .int .i64 w.st) rfl, ?_⟩
        conv => whnf
        have es : doneS ws ((i : Int) + 1) = (ws.set i { w with st := 2, ld := w.ld - 1 }, 0) := by
          unfold doneS
          rw [if_pos (find_in hw (by simp [hst])), atN_eq rfl hw, if_neg (by omega), if_neg (by omega), upN_eq rfl]
          have : ({ w with st := 2, ld := 0, id := 0 } : Wk) = { w with st := 2, ld := w.ld - 1 } := by cases w; simp_all
          rw [this]
        refine cw_beq_yes rfl h3' ?_
        refine cw_region rfl ?_
        conv => whnf
        refine ⟨_, _, y6, by show 1 < (wkC _).length; exact Nat.lt_of_lt_of_eq (show 1 < 37 by decide) (wkC_length (by exact hkl)).symm, ?_⟩
        intro h7 w7
        replace w7 := w7.cast (l' := wkC { w with st := 2, ld := w.ld - 1 }) (wkC_st { w with ld := w.ld - 1 } 2)
        have z7 := w7.size
        have y7 := w7.new
        replace y1 := w6.blk y1 (by omega)
        replace yr := w6.blk yr (by omega)
        replace o5 := OwnS.keep o5 w6.chg (fun b hb e => by have := OwnS.lt o hb; omega)
        replace y1 := w7.blk y1 (by omega)
        replace yr := w7.blk yr (by omega)
        replace o5 := OwnS.keep o5 w7.chg (fun b hb e => by have := OwnS.lt o hb; omega)
        have xL : ExtH h h7 := ⟨by omega, fun b hb => by rw [w7.block b (by omega), w6.block b (by omega), x05.block b hb]⟩
        refine cw_seq (cw_region rfl ?_)
        conv => whnf
        refine ⟨refC wk sl id (.slice va ws.length vc), rfl, y1.all, ?_⟩
        conv => whnf
        refine ⟨wkC { w with st := 2, ld := w.ld - 1 }, (wkC_length (w := { w with st := 2, ld := w.ld - 1 }) hkl).trans rfl, y7.all, ?_⟩
        conv => whnf
        refine ⟨_, rfl, _, rwith_fn (w := { w with st := 2, ld := w.ld - 1 }) o5 kk hs hw hkl hnum, ?_⟩
        rintro _ h20 ⟨wv', rfl, o20, x20, f20⟩
        obtain ⟨a20, c20, e20, _⟩ := OW.fix o20
        subst e20
        have z20 := x20.size
        replace yr := x20.blk yr
        conv => whnf
        refine store_ref yr ?_
        intro h21 w21
        have z21 := w21.size
        refine cw_ret ?_
        conv => whnf
        rw [es]
        refine ⟨_, rfl, w21.new.all, _, rfl, ?_, ⟨by omega, fun b hb => by rw [w21.block b (by omega), x20.block b (by omega), xL.block b hb]⟩, fun b hb => .inr (by have := f20 b hb; omega)⟩
        have := OwnS.keep o20 w21.chg (fun b hb e => by subst e; exact OwnS.ne o20 yr (by decide) hb)
        first | exact this | (simpa [upN_eq] using this)
      · have es : doneS ws ((i : Int) + 1) = (ws.set i { w with ld := w.ld - 1 }, 0) := by
          unfold doneS
          rw [if_pos (find_in hw (by simp [hst])), atN_eq rfl hw, if_pos (by omega), upN_eq rfl]
        refine ops_q (v := .bool false) rfl rfl (fun k hk => say_eq_no hz hk) ?_
        conv => whnf
        refine cw_false rfl ?_
        refine cw_seq (cw_region rfl ?_)
        conv => whnf
        refine ⟨_, y6.rd (wkC_get_ld (w := { w with ld := w.ld - 1 }) hkl), ?_⟩
        conv => whnf
        refine cw_beq_no rfl hz (cw_skip ?_)
        replace y1 := w6.blk y1 (by omega)
        replace yr := w6.blk yr (by omega)
        replace o5 := OwnS.keep o5 w6.chg (fun b hb e => by have := OwnS.lt o hb; omega)
        have xL : ExtH h h6 := ⟨by omega, fun b hb => by rw [w6.block b (by omega), x05.block b hb]⟩
        refine cw_seq (cw_region rfl ?_)
        conv => whnf
        refine ⟨refC wk sl id (.slice va ws.length vc), rfl, y1.all, ?_⟩
        conv => whnf
        refine ⟨wkC { w with ld := w.ld - 1 }, (wkC_length (w := { w with ld := w.ld - 1 }) hkl).trans rfl, y6.all, ?_⟩
        conv => whnf
        refine ⟨_, rfl, _, rwith_fn (w := { w with ld := w.ld - 1 }) o5 kk hs hw hkl hnum, ?_⟩
        rintro _ h20 ⟨wv', rfl, o20, x20, f20⟩
        obtain ⟨a20, c20, e20, _⟩ := OW.fix o20
        subst e20
        have z20 := x20.size
        replace yr := x20.blk yr
        conv => whnf
        refine store_ref yr ?_
        intro h21 w21
        have z21 := w21.size
        refine cw_ret ?_
        conv => whnf
        rw [es]
        refine ⟨_, rfl, w21.new.all, _, rfl, ?_, ⟨by omega, fun b hb => by rw [w21.block b (by omega), x20.block b (by omega), xL.block b hb]⟩, fun b hb => .inr (by have := f20 b hb; omega)⟩
        have := OwnS.keep o20 w21.chg (fun b hb e => by subst e; exact OwnS.ne o20 yr (by decide) hb)
        first | exact this | (simpa [upN_eq] using this)
    · refine ops_q (v := .bool true) rfl rfl (fun k hk => say_ne h3' hk) ?_
      conv => whnf
      refine ⟨_, y5.rd (o := 1) rfl, ?_⟩
      conv => whnf
      by_cases h4' : w.st = 4
      · have hst : w.st = 3 ∨ w.st = 4 := .inr h4'
        refine cw_bne_no rfl h4' (cw_skip ?_)
        have hbz := hok.busy hst
        have hb := I.get hw
        have hi0 := hok.still (by omega)
        refine cw_seq (cw_region rfl ?_)
        conv => whnf
        refine ⟨_, y5.rd (wkC_get_ld hkl), ?_⟩
        conv => whnf
        rw [i64_in (w.ld - 1) (by omega) (by omega)]
        refine ⟨_, _, y5, by show 35 < (wkC _).length; exact Nat.lt_of_lt_of_eq (show 35 < 37 by decide) (wkC_length (by exact hkl)).symm, ?_⟩
        intro h6 w6
        replace w6 := w6.cast (l' := wkC { w with ld := w.ld - 1 }) (wkC_ld hkl (w.ld - 1))
        have z6 := w6.size
        have y6 := w6.new
        refine cw_seq (cw_seq (cw_region rfl ?_))
        conv => whnf
        refine ⟨_, y6.rd (wkC_get_ld (w := { w with ld := w.ld - 1 }) hkl), ?_⟩
        by_cases hz : w.ld - 1 = 0
        · refine ops_q (v := .bool true) rfl rfl (fun k hk => say_eq hz hk) ?_
          conv => whnf
          refine ⟨_, y6.rd (o := 1) (v := .int .i64 w.st) rfl, ?_⟩
          conv => whnf
          have es : doneS ws ((i : Int) + 1) = (ws.set i { w with st := 6, ld := w.ld - 1 }, 0) := by
            unfold doneS
            rw [if_pos (find_in hw (by simp [hst])), atN_eq rfl hw, if_neg (by omega), if_pos h4', upN_eq rfl]
            have : ({ w with st := 6, ld := 0, id := 0 } : Wk) = { w with st := 6, ld := w.ld - 1 } := by cases w; simp_all
            rw [this]
          refine cw_beq_no rfl h3' ?_
          refine cw_seq (cw_region rfl ?_)
          conv => whnf
          refine ⟨_, y6.rd (wkC_get_ld (w := { w with ld := w.ld - 1 }) hkl), ?_⟩
          conv => whnf
          refine cw_beq_yes rfl hz ?_
          refine cw_region rfl ?_
          conv => whnf
          refine ⟨_, _, y6, by show 1 < (wkC _).length; exact Nat.lt_of_lt_of_eq (show 1 < 37 by decide) (wkC_length (by exact hkl)).symm, ?_⟩
          intro h7 w7
          replace w7 := w7.cast (l' := wkC { w with st := 6, ld := w.ld - 1 }) (wkC_st { w with ld := w.ld - 1 } 6)
          have z7 := w7.size
          have y7 := w7.new
          replace y1 := w6.blk y1 (by omega)
          replace yr := w6.blk yr (by omega)
          replace o5 := OwnS.keep o5 w6.chg (fun b hb e => by have := OwnS.lt o hb; omega)
          replace y1 := w7.blk y1 (by omega)
          replace yr := w7.blk yr (by omega)
          replace o5 := OwnS.keep o5 w7.chg (fun b hb e => by have := OwnS.lt o hb; omega)
          have xL : ExtH h h7 := ⟨by omega, fun b hb => by rw [w7.block b (by omega), w6.block b (by omega), x05.block b hb]⟩
          refine cw_seq (cw_region rfl ?_)
          conv => whnf
          refine ⟨refC wk sl id (.slice va ws.length vc), rfl, y1.all, ?_⟩
          conv => whnf
          refine ⟨wkC { w with st := 6, ld := w.ld - 1 }, (wkC_length (w := { w with st := 6, ld := w.ld - 1 }) hkl).trans rfl, y7.all, ?_⟩
          conv => whnf
          refine ⟨_, rfl, _, rwith_fn (w := { w with st := 6, ld := w.ld - 1 }) o5 kk hs hw hkl hnum, ?_⟩
          rintro _ h20 ⟨wv', rfl, o20, x20, f20⟩
          obtain ⟨a20, c20, e20, _⟩ := OW.fix o20
          subst e20
          have z20 := x20.size
          replace yr := x20.blk yr
          conv => whnf
          refine store_ref yr ?_
          intro h21 w21
          have z21 := w21.size
          refine cw_ret ?_
          conv => whnf
          rw [es]
          refine ⟨_, rfl, w21.new.all, _, rfl, ?_, ⟨by omega, fun b hb => by rw [w21.block b (by omega), x20.block b (by omega), xL.block b hb]⟩, fun b hb => .inr (by have := f20 b hb; omega)⟩
          have := OwnS.keep o20 w21.chg (fun b hb e => by subst e; exact OwnS.ne o20 yr (by decide) hb)
          first | exact this | (simpa [upN_eq] using this)
        · have es : doneS ws ((i : Int) + 1) = (ws.set i { w with ld := w.ld - 1 }, 0) := by
            unfold doneS
            rw [if_pos (find_in hw (by simp [hst])), atN_eq rfl hw, if_pos (by omega), upN_eq rfl]
          refine ops_q (v := .bool false) rfl rfl (fun k hk => say_eq_no hz hk) ?_
          conv => whnf
          refine cw_false rfl ?_
          refine cw_seq (cw_region rfl ?_)
          conv => whnf
          refine ⟨_, y6.rd (wkC_get_ld (w := { w with ld := w.ld - 1 }) hkl), ?_⟩
          conv => whnf
          refine cw_beq_no rfl hz (cw_skip ?_)
          replace y1 := w6.blk y1 (by omega)
          replace yr := w6.blk yr (by omega)
          replace o5 := OwnS.keep o5 w6.chg (fun b hb e => by have := OwnS.lt o hb; omega)
          have xL : ExtH h h6 := ⟨by omega, fun b hb => by rw [w6.block b (by omega), x05.block b hb]⟩
          refine cw_seq (cw_region rfl ?_)
          conv => whnf
          refine ⟨refC wk sl id (.slice va ws.length vc), rfl, y1.all, ?_⟩
          conv => whnf
          refine ⟨wkC { w with ld := w.ld - 1 }, (wkC_length (w := { w with ld := w.ld - 1 }) hkl).trans rfl, y6.all, ?_⟩
          conv => whnf
          refine ⟨_, rfl, _, rwith_fn (w := { w with ld := w.ld - 1 }) o5 kk hs hw hkl hnum, ?_⟩
          rintro _ h20 ⟨wv', rfl, o20, x20, f20⟩
          obtain ⟨a20, c20, e20, _⟩ := OW.fix o20
          subst e20
          have z20 := x20.size
          replace yr := x20.blk yr
          conv => whnf
          refine store_ref yr ?_
          intro h21 w21
          have z21 := w21.size
          refine cw_ret ?_
          conv => whnf
          rw [es]
          refine ⟨_, rfl, w21.new.all, _, rfl, ?_, ⟨by omega, fun b hb => by rw [w21.block b (by omega), x20.block b (by omega), xL.block b hb]⟩, fun b hb => .inr (by have := f20 b hb; omega)⟩
          have := OwnS.keep o20 w21.chg (fun b hb e => by subst e; exact OwnS.ne o20 yr (by decide) hb)
          first | exact this | (simpa [upN_eq] using this)
      · have es : doneS ws ((i : Int) + 1) = (ws, 261) := by
          unfold doneS
          have e := find_out hw (l := [3, 4]) (by simp [h3', h4'])
          rw [if_neg (by rw [e]; decide), e]
        refine cw_bne_yes rfl h4' ?_
        refine cw_seq (cw_region rfl ?_)
        conv => whnf
        refine ⟨refC wk sl id (.slice va ws.length vc), rfl, y1.all, ?_⟩
        conv => whnf
        refine store_ref yr ?_
        intro h6 w6
        have z6 := w6.size
        refine cw_ret ?_
        conv => whnf
        rw [es]
        exact ⟨_, rfl, w6.new.all, _, rfl, OwnS.keep o5 w6.chg (fun b hb e => by subst e; exact OwnS.ne o5 yr (by decide) hb), ⟨by omega, fun b hb => by rw [w6.block b (by omega), x05.block b hb]⟩, fun b hb => .inl hb⟩
theorem rdrain_fn {h : Heap} {wv : Value} {wk sl id : Int} {ws : List Wk} (n : Int) (o : OW h wv ws) (kk : keysOk ws) (I : Inv wk sl id ws) (hs : ws.length ≤ 1000000000) :
    Fx Try.prog 44 #[.agg (refC wk sl id wv).toArray, .int .i64 n] h fun u h' => ∃ wv', u = .tuple #[.agg (refC wk sl id wv').toArray, .int .i64 (drainS ws n).2] ∧ OW h' wv' (drainS ws n).1 ∧ ExtH h h' ∧ ∀ b, ob wv' b → ob wv b ∨ h.size ≤ b := by
  refine fn_of 32 Try.func44 rfl (by kernel_rfl) rfl (by simp) ?_
  obtain ⟨va, vc, hve, hvm⟩ := o.fix
  subst hve
  have hmax : maxLen < 9223372036854775808 := by decide
  refine cw_seq (cw_region rfl ?_)
  conv => whnf
  intro h1 n1
  have y1 : Blk h1 h.size (refC wk sl id (.slice va ws.length vc)) 53 := n1.blk
  have x1 := n1.ext
  have z1 := n1.size
  clear n1
  conv => whnf
  intro h2 n2
  have yr : Blk h2 h1.size (refC 0 0 0 (.slice none 0 0)) 53 := n2.blk
  have x2 := n2.ext
  have z2 := n2.size
  clear n2
  replace y1 := x2.blk y1
  conv => whnf
  refine cw_seq (cw_region rfl ?_)
  conv => whnf
  refine ⟨refC wk sl id (.slice va ws.length vc), rfl, y1.all, ?_⟩
  conv => whnf
  refine ⟨_, rfl, _, rlook_fn n ((o.more x1).more x2) kk, ?_⟩
  rintro _ h3 ⟨rfl, x3⟩
  have hkl := rlook_key kk n
  conv => whnf
  intro h4 n4
  conv => whnf
  refine store_wk (a := zeroW) n4.blk zeroW_key hkl ?_
  intro h5 w5
  have z3 := x3.size
  have z4 := n4.size
  have z5 := w5.size
  have x35 : ExtH h3 h5 := ⟨by omega, fun b hb => by rw [w5.block b (by omega), n4.block b hb]⟩
  have y5 := w5.new
  clear n4 w5
  replace y1 := x35.blk (x3.blk y1)
  replace yr := x35.blk (x3.blk yr)
  have o5 := (((o.more x1).more x2).more x3).more x35
  have x05 := ((x1.trans x2).trans x3).trans x35
  conv => whnf
  refine cw_seq (cw_seq (cw_region rfl ?_))
  by_cases hr : n < 1 ∨ (ws.length : Int) < n

  · have es : drainS ws n = (ws, 260) := by unfold drainS; rw [find_no hr]; rfl
    refine cw_bne_yes rfl (by rw [rlook_no hr]; decide) ?_
    refine cw_seq (cw_region rfl ?_)
    conv => whnf
    refine ⟨refC wk sl id (.slice va ws.length vc), rfl, y1.all, ?_⟩
    conv => whnf
    refine store_ref yr ?_
    intro h6 w6
    have z6 := w6.size
    refine cw_ret ?_
    conv => whnf
    rw [es]
    exact ⟨_, rfl, w6.new.all, _, by show one [_, .int .i64 (rlookS ws n).2] = _; rw [rlook_no hr]; rfl, OwnS.keep o5 w6.chg (fun b hb e => by subst e; exact OwnS.ne o5 yr (by decide) hb), ⟨by omega, fun b hb => by rw [w6.block b (by omega), x05.block b hb]⟩, fun b hb => .inl hb⟩

  · obtain ⟨i, w, rfl, hw⟩ := place hr
    rw [rlook_yes hw] at y5 hkl
    have hok := I.ok (List.mem_of_getElem? hw)
    have hnum := I.num i w hw
    have hlim := I.lim
    unfold okLim at hlim
    have hil := (List.getElem?_eq_some_iff.1 hw).1
    simp only at y5 hkl
    refine cw_bne_no rfl (by rw [rlook_yes hw]) (cw_skip ?_)

    refine cw_seq (cw_seq (cw_region rfl ?_))
    conv => whnf
    refine ⟨_, y5.rd (o := 1) rfl, ?_⟩
    conv => whnf
    refine cw_block ?_
    refine cw_seq (cw_seq (cw_region rfl ?_))
    by_cases h1' : w.st = 1
    · refine cw_beq_yes rfl h1' (cw_skip ?_)
      refine cw_beq_yes rfl h1' ?_
      have es : drainS ws ((i : Int) + 1) = (ws.set i { w with st := 6, id := 0 }, 0) := by
        unfold drainS
        have hc := hok.calm (by omega)
        rw [if_pos (find_in hw (by simp; omega)), atN_eq rfl hw, if_neg (by omega), upN_eq rfl]
        have : ({ w with st := 6, ld := 0, id := 0 } : Wk) = { w with st := 6, id := 0 } := by cases w; simp_all
        rw [this]
      refine cw_region rfl ?_
      conv => whnf
      refine ⟨_, _, y5, by show 1 < (wkC _).length; exact Nat.lt_of_lt_of_eq (show 1 < 37 by decide) (wkC_length (by exact hkl)).symm, ?_⟩
      intro h6 w6
      replace w6 := w6.cast (l' := wkC { w with st := 6 }) (wkC_st w 6)
      have z6 := w6.size
      have y6 := w6.new
      conv => whnf
      refine ⟨_, _, y6, by show 36 < (wkC _).length; exact Nat.lt_of_lt_of_eq (show 36 < 37 by decide) (wkC_length (by exact hkl)).symm, ?_⟩
      intro h7 w7
      replace w7 := w7.cast (l' := wkC { w with st := 6, id := 0 }) (wkC_id (w := { w with st := 6 }) hkl 0)
      have z7 := w7.size
      have y7 := w7.new
      replace y1 := w6.blk y1 (by omega)
      replace yr := w6.blk yr (by omega)
      replace o5 := OwnS.keep o5 w6.chg (fun b hb e => by have := OwnS.lt o hb; omega)
      replace y1 := w7.blk y1 (by omega)
      replace yr := w7.blk yr (by omega)
      replace o5 := OwnS.keep o5 w7.chg (fun b hb e => by have := OwnS.lt o hb; omega)
      have xL : ExtH h h7 := ⟨by omega, fun b hb => by rw [w7.block b (by omega), w6.block b (by omega), x05.block b hb]⟩
      refine cw_seq (cw_region rfl ?_)
      conv => whnf
      refine ⟨refC wk sl id (.slice va ws.length vc), rfl, y1.all, ?_⟩
      conv => whnf
      refine ⟨wkC { w with st := 6, id := 0 }, (wkC_length (w := { w with st := 6, id := 0 }) hkl).trans rfl, y7.all, ?_⟩
      conv => whnf
      refine ⟨_, rfl, _, rwith_fn (w := { w with st := 6, id := 0 }) o5 kk hs hw hkl hnum, ?_⟩
      rintro _ h20 ⟨wv', rfl, o20, x20, f20⟩
      obtain ⟨a20, c20, e20, _⟩ := OW.fix o20
      subst e20
      have z20 := x20.size
      replace yr := x20.blk yr
      conv => whnf
      refine store_ref yr ?_
      intro h21 w21
      have z21 := w21.size
      refine cw_ret ?_
      conv => whnf
      rw [es]
      refine ⟨_, rfl, w21.new.all, _, rfl, ?_, ⟨by omega, fun b hb => by rw [w21.block b (by omega), x20.block b (by omega), xL.block b hb]⟩, fun b hb => .inr (by have := f20 b hb; omega)⟩
      have := OwnS.keep o20 w21.chg (fun b hb e => by subst e; exact OwnS.ne o20 yr (by decide) hb)
      first | exact this | (simpa [upN_eq] using this)
    refine cw_beq_no rfl h1' ?_
    refine cw_region rfl ?_
    by_cases h2' : w.st = 2
    · refine cw_beq_yes rfl h2' ?_
      have es : drainS ws ((i : Int) + 1) = (ws.set i { w with st := 6, id := 0 }, 0) := by
        unfold drainS
        have hc := hok.calm (by omega)
        rw [if_pos (find_in hw (by simp; omega)), atN_eq rfl hw, if_neg (by omega), upN_eq rfl]
        have : ({ w with st := 6, ld := 0, id := 0 } : Wk) = { w with st := 6, id := 0 } := by cases w; simp_all
        rw [this]
      refine cw_region rfl ?_
      conv => whnf
      refine ⟨_, _, y5, by show 1 < (wkC _).length; exact Nat.lt_of_lt_of_eq (show 1 < 37 by decide) (wkC_length (by exact hkl)).symm, ?_⟩
      intro h6 w6
      replace w6 := w6.cast (l' := wkC { w with st := 6 }) (wkC_st w 6)
      have z6 := w6.size
      have y6 := w6.new
      conv => whnf
      refine ⟨_, _, y6, by show 36 < (wkC _).length; exact Nat.lt_of_lt_of_eq (show 36 < 37 by decide) (wkC_length (by exact hkl)).symm, ?_⟩
      intro h7 w7
      replace w7 := w7.cast (l' := wkC { w with st := 6, id := 0 }) (wkC_id (w := { w with st := 6 }) hkl 0)
      have z7 := w7.size
      have y7 := w7.new
      replace y1 := w6.blk y1 (by omega)
      replace yr := w6.blk yr (by omega)
      replace o5 := OwnS.keep o5 w6.chg (fun b hb e => by have := OwnS.lt o hb; omega)
      replace y1 := w7.blk y1 (by omega)
      replace yr := w7.blk yr (by omega)
      replace o5 := OwnS.keep o5 w7.chg (fun b hb e => by have := OwnS.lt o hb; omega)
      have xL : ExtH h h7 := ⟨by omega, fun b hb => by rw [w7.block b (by omega), w6.block b (by omega), x05.block b hb]⟩
      refine cw_seq (cw_region rfl ?_)
      conv => whnf
      refine ⟨refC wk sl id (.slice va ws.length vc), rfl, y1.all, ?_⟩
      conv => whnf
      refine ⟨wkC { w with st := 6, id := 0 }, (wkC_length (w := { w with st := 6, id := 0 }) hkl).trans rfl, y7.all, ?_⟩
      conv => whnf
      refine ⟨_, rfl, _, rwith_fn (w := { w with st := 6, id := 0 }) o5 kk hs hw hkl hnum, ?_⟩
      rintro _ h20 ⟨wv', rfl, o20, x20, f20⟩
      obtain ⟨a20, c20, e20, _⟩ := OW.fix o20
      subst e20
      have z20 := x20.size
      replace yr := x20.blk yr
      conv => whnf
      refine store_ref yr ?_
      intro h21 w21
      have z21 := w21.size
      refine cw_ret ?_
      conv => whnf
      rw [es]
      refine ⟨_, rfl, w21.new.all, _, rfl, ?_, ⟨by omega, fun b hb => by rw [w21.block b (by omega), x20.block b (by omega), xL.block b hb]⟩, fun b hb => .inr (by have := f20 b hb; omega)⟩
      have := OwnS.keep o20 w21.chg (fun b hb e => by subst e; exact OwnS.ne o20 yr (by decide) hb)
      first | exact this | (simpa [upN_eq] using this)
    refine cw_beq_no rfl h2' ?_
    refine cw_seq (cw_region rfl ?_)
    by_cases h3' : w.st = 3
    · have es : drainS ws ((i : Int) + 1) = (ws.set i { w with st := 4 }, 0) := by
        unfold drainS
        have hi0 := hok.still (by omega)
        rw [if_pos (find_in hw (by simp [h3'])), atN_eq rfl hw, if_pos h3', upN_eq rfl]
        have : ({ w with st := 4, ld := w.ld, id := 0 } : Wk) = { w with st := 4 } := by cases w; simp_all
        rw [this]
      refine cw_beq_yes rfl h3' ?_
      refine cw_region rfl ?_
      conv => whnf
      refine ⟨_, _, y5, by show 1 < (wkC _).length; exact Nat.lt_of_lt_of_eq (show 1 < 37 by decide) (wkC_length (by exact hkl)).symm, ?_⟩
      intro h6 w6
      replace w6 := w6.cast (l' := wkC { w with st := 4 }) (wkC_st w 4)
      have z6 := w6.size
      have y6 := w6.new
      replace y1 := w6.blk y1 (by omega)
      replace yr := w6.blk yr (by omega)
      replace o5 := OwnS.keep o5 w6.chg (fun b hb e => by have := OwnS.lt o hb; omega)
      have xL : ExtH h h6 := ⟨by omega, fun b hb => by rw [w6.block b (by omega), x05.block b hb]⟩
      refine cw_seq (cw_region rfl ?_)
      conv => whnf
      refine ⟨refC wk sl id (.slice va ws.length vc), rfl, y1.all, ?_⟩
      conv => whnf
      refine ⟨wkC { w with st := 4 }, (wkC_length (w := { w with st := 4 }) hkl).trans rfl, y6.all, ?_⟩
      conv => whnf
      refine ⟨_, rfl, _, rwith_fn (w := { w with st := 4 }) o5 kk hs hw hkl hnum, ?_⟩
      rintro _ h20 ⟨wv', rfl, o20, x20, f20⟩
      obtain ⟨a20, c20, e20, _⟩ := OW.fix o20
      subst e20
      have z20 := x20.size
      replace yr := x20.blk yr
      conv => whnf
      refine store_ref yr ?_
      intro h21 w21
      have z21 := w21.size
      refine cw_ret ?_
      conv => whnf
      rw [es]
      refine ⟨_, rfl, w21.new.all, _, rfl, ?_, ⟨by omega, fun b hb => by rw [w21.block b (by omega), x20.block b (by omega), xL.block b hb]⟩, fun b hb => .inr (by have := f20 b hb; omega)⟩
      have := OwnS.keep o20 w21.chg (fun b hb e => by subst e; exact OwnS.ne o20 yr (by decide) hb)
      first | exact this | (simpa [upN_eq] using this)
    · have es : drainS ws ((i : Int) + 1) = (ws, 261) := by
        unfold drainS
        have e := find_out hw (l := [1, 2, 3]) (by simp [h1', h2', h3'])
        rw [if_neg (by rw [e]; decide), e]
      refine cw_beq_no rfl h3' ?_
      refine cw_seq (cw_region rfl ?_)
      conv => whnf
      refine ⟨refC wk sl id (.slice va ws.length vc), rfl, y1.all, ?_⟩
      conv => whnf
      refine store_ref yr ?_
      intro h6 w6
      have z6 := w6.size
      refine cw_ret ?_
      conv => whnf
      rw [es]
      exact ⟨_, rfl, w6.new.all, _, rfl, OwnS.keep o5 w6.chg (fun b hb e => by subst e; exact OwnS.ne o5 yr (by decide) hb), ⟨by omega, fun b hb => by rw [w6.block b (by omega), x05.block b hb]⟩, fun b hb => .inl hb⟩
theorem rended_fn {h : Heap} {wv : Value} {wk sl id : Int} {ws : List Wk} {i : Nat} {w : Wk} (s : Int) (o : OW h wv ws) (kk : keysOk ws) (hs : ws.length ≤ 1000000000) (hw : ws[i]? = some w) (hn : w.n = (i : Int) + 1) :
    Fx Try.prog 61 #[.agg (refC wk sl id wv).toArray, .agg (wkC w).toArray, .int .i64 s] h fun u h' => ∃ wv', u = .tuple #[.agg (refC wk sl id wv').toArray, .int .i64 w.ld, .int .i64 0] ∧ OW h' wv' (ws.set i { w with st := s, ld := 0, id := 0 }) ∧ ExtH h h' ∧ ∀ b, ob wv' b → h.size ≤ b := by
  refine fn_of 20 Try.func61 rfl (by kernel_rfl) rfl (by simp) ?_
  obtain ⟨va, vc, hve, hvm⟩ := o.fix
  subst hve
  have hkl := keysOk_get kk hw
  refine cw_seq (cw_region rfl ?_)
  conv => whnf
  intro h1 n1
  have y1 : Blk h1 h.size (refC wk sl id (.slice va ws.length vc)) 53 := n1.blk
  have x1 := n1.ext
  have z1 := n1.size
  clear n1
  conv => whnf
  intro h2 n2
  have y5 : Blk h2 h1.size (wkC w) 31 := n2.blk
  have x2 := n2.ext
  have z2 := n2.size
  clear n2
  conv => whnf
  intro h3 n3
  have yr : Blk h3 h2.size (refC 0 0 0 (.slice none 0 0)) 53 := n3.blk
  have x3 := n3.ext
  have z3 := n3.size
  clear n3
  replace y1 := x3.blk (x2.blk y1)
  replace y5 := x3.blk y5
  have x05 := (x1.trans x2).trans x3
  have o5 := o.more x05
  conv => whnf
  refine cw_seq (cw_region rfl ?_)
  conv => whnf
  refine ⟨_, y5.rd (wkC_get_ld hkl), ?_⟩
  conv => whnf
  refine cw_seq (cw_region rfl ?_)
  conv => whnf
  refine ⟨_, _, y5, by show 1 < (wkC _).length; exact Nat.lt_of_lt_of_eq (show 1 < 37 by decide) (wkC_length (by exact hkl)).symm, ?_⟩
  intro h6 w6
  replace w6 := w6.cast (l' := wkC { w with st := s }) (wkC_st w s)
  have z6 := w6.size
  have y6 := w6.new
  conv => whnf
  refine ⟨_, _, y6, by show 35 < (wkC _).length; exact Nat.lt_of_lt_of_eq (show 35 < 37 by decide) (wkC_length (by exact hkl)).symm, ?_⟩
  intro h7 w7
  replace w7 := w7.cast (l' := wkC { w with st := s, ld := 0 }) (wkC_ld (w := { w with st := s }) hkl 0)
  have z7 := w7.size
  have y7 := w7.new
  conv => whnf
  refine ⟨_, _, y7, by show 36 < (wkC _).length; exact Nat.lt_of_lt_of_eq (show 36 < 37 by decide) (wkC_length (by exact hkl)).symm, ?_⟩
  intro h8 w8
  replace w8 := w8.cast (l' := wkC { w with st := s, ld := 0, id := 0 }) (wkC_id (w := { w with st := s, ld := 0 }) hkl 0)
  have z8 := w8.size
  have y8 := w8.new
  replace y1 := w6.blk y1 (by omega)
  replace yr := w6.blk yr (by omega)
  replace o5 := OwnS.keep o5 w6.chg (fun b hb e => by have := OwnS.lt o hb; omega)
  replace y1 := w7.blk y1 (by omega)
  replace yr := w7.blk yr (by omega)
  replace o5 := OwnS.keep o5 w7.chg (fun b hb e => by have := OwnS.lt o hb; omega)
  replace y1 := w8.blk y1 (by omega)
  replace yr := w8.blk yr (by omega)
  replace o5 := OwnS.keep o5 w8.chg (fun b hb e => by have := OwnS.lt o hb; omega)
  have xL : ExtH h h8 := ⟨by omega, fun b hb => by rw [w8.block b (by omega), w7.block b (by omega), w6.block b (by omega), x05.block b hb]⟩
  refine cw_seq (cw_region rfl ?_)
  conv => whnf
  refine ⟨refC wk sl id (.slice va ws.length vc), rfl, y1.all, ?_⟩
  conv => whnf
  refine ⟨wkC { w with st := s, ld := 0, id := 0 }, (wkC_length (w := { w with st := s, ld := 0, id := 0 }) hkl).trans rfl, y8.all, ?_⟩
  conv => whnf
  refine ⟨_, rfl, _, rwith_fn (w := { w with st := s, ld := 0, id := 0 }) o5 kk hs hw hkl hn, ?_⟩
  rintro _ h20 ⟨wv', rfl, o20, x20, f20⟩
  obtain ⟨a20, c20, e20, _⟩ := OW.fix o20
  subst e20
  have z20 := x20.size
  replace yr := x20.blk yr
  conv => whnf
  refine store_ref yr ?_
  intro h21 w21
  have z21 := w21.size
  refine cw_ret ?_
  conv => whnf
  refine ⟨_, rfl, w21.new.all, _, rfl, ?_, ⟨by omega, fun b hb => by rw [w21.block b (by omega), x20.block b (by omega), xL.block b hb]⟩, fun b hb => by have := f20 b hb; omega⟩
  have := OwnS.keep o20 w21.chg (fun b hb e => by subst e; exact OwnS.ne o20 yr (by decide) hb)
  first | exact this | (simpa [upN_eq] using this)
theorem rpoison_fn {h : Heap} {wv : Value} {wk sl id : Int} {ws : List Wk} (n : Int) (o : OW h wv ws) (kk : keysOk ws) (I : Inv wk sl id ws) (hs : ws.length ≤ 1000000000) :
    Fx Try.prog 45 #[.agg (refC wk sl id wv).toArray, .int .i64 n] h fun u h' => ∃ wv', u = .tuple #[.agg (refC wk sl id wv').toArray, .int .i64 (endS ws n 5 [1, 2, 3, 4]).2.1, .int .i64 (endS ws n 5 [1, 2, 3, 4]).2.2] ∧ OW h' wv' (endS ws n 5 [1, 2, 3, 4]).1 ∧ ExtH h h' ∧ ∀ b, ob wv' b → ob wv b ∨ h.size ≤ b := by
  refine fn_of 29 Try.func45 rfl (by kernel_rfl) rfl (by simp) ?_
  obtain ⟨va, vc, hve, hvm⟩ := o.fix
  subst hve
  have hmax : maxLen < 9223372036854775808 := by decide
  refine cw_seq (cw_region rfl ?_)
  conv => whnf
  intro h1 n1
  have y1 : Blk h1 h.size (refC wk sl id (.slice va ws.length vc)) 53 := n1.blk
  have x1 := n1.ext
  have z1 := n1.size
  clear n1
  conv => whnf
  intro h2 n2
  have yr : Blk h2 h1.size (refC 0 0 0 (.slice none 0 0)) 53 := n2.blk
  have x2 := n2.ext
  have z2 := n2.size
  clear n2
  replace y1 := x2.blk y1
  conv => whnf
  refine cw_seq (cw_region rfl ?_)
  conv => whnf
  refine ⟨refC wk sl id (.slice va ws.length vc), rfl, y1.all, ?_⟩
  conv => whnf
  refine ⟨_, rfl, _, rlook_fn n ((o.more x1).more x2) kk, ?_⟩
  rintro _ h3 ⟨rfl, x3⟩
  have hkl := rlook_key kk n
  conv => whnf
  intro h4 n4
  conv => whnf
  refine store_wk (a := zeroW) n4.blk zeroW_key hkl ?_
  intro h5 w5
  have z3 := x3.size
  have z4 := n4.size
  have z5 := w5.size
  have x35 : ExtH h3 h5 := ⟨by omega, fun b hb => by rw [w5.block b (by omega), n4.block b hb]⟩
  have y5 := w5.new
  clear n4 w5
  replace y1 := x35.blk (x3.blk y1)
  replace yr := x35.blk (x3.blk yr)
  have o5 := (((o.more x1).more x2).more x3).more x35
  have x05 := ((x1.trans x2).trans x3).trans x35
  conv => whnf
  refine cw_seq (cw_seq (cw_region rfl ?_))
  by_cases hr : n < 1 ∨ (ws.length : Int) < n
  · have es : endS ws n 5 [1, 2, 3, 4] = (ws, 0, 260) := by unfold endS; rw [find_no hr]; rfl
    refine cw_bne_yes rfl (by rw [rlook_no hr]; decide) ?_
    refine cw_seq (cw_region rfl ?_)
    conv => whnf
    refine ⟨refC wk sl id (.slice va ws.length vc), rfl, y1.all, ?_⟩
    conv => whnf
    refine store_ref yr ?_
    intro h6 w6
    have z6 := w6.size
    refine cw_ret ?_
    conv => whnf
    rw [es]
    exact ⟨_, rfl, w6.new.all, _, by show one [_, .int .i64 0, .int .i64 (rlookS ws n).2] = _; rw [rlook_no hr]; rfl, OwnS.keep o5 w6.chg (fun b hb e => by subst e; exact OwnS.ne o5 yr (by decide) hb), ⟨by omega, fun b hb => by rw [w6.block b (by omega), x05.block b hb]⟩, fun b hb => .inl hb⟩
  · obtain ⟨i, w, rfl, hw⟩ := place hr
    rw [rlook_yes hw] at y5 hkl
    have hok := I.ok (List.mem_of_getElem? hw)
    have hnum := I.num i w hw
    have hlim := I.lim
    unfold okLim at hlim
    have hil := (List.getElem?_eq_some_iff.1 hw).1
    simp only at y5 hkl
    refine cw_bne_no rfl (by rw [rlook_yes hw]) (cw_skip ?_)
    refine cw_seq (cw_seq (cw_region rfl ?_))
    conv => whnf
    refine ⟨wkC w, by rw [wkC_length hkl]; rfl, y5.all, ?_⟩
    conv => whnf
    refine ⟨_, rfl, _, rlives_fn w hkl, ?_⟩
    rintro _ h6 ⟨rfl, x6⟩
    have z6' := x6.size
    replace y1 := x6.blk y1
    replace y5 := x6.blk y5
    replace yr := x6.blk yr
    replace o5 := OW.more o5 x6
    replace x05 := x05.trans x6
    cases hlv : isLive w with
    | true =>
      have hst := (live_iff w).1 hlv
      conv => whnf
      have es : endS ws ((i : Int) + 1) 5 [1, 2, 3, 4] = (ws.set i { w with st := 5, ld := 0, id := 0 }, w.ld, 0) := by
        unfold endS
        rw [if_pos (find_in hw (by simp; omega)), atN_eq rfl hw, upN_eq rfl]
      refine cw_false rfl (cw_skip ?_)
      refine cw_seq (cw_region rfl ?_)
      conv => whnf
      refine ⟨refC wk sl id (.slice va ws.length vc), rfl, y1.all, ?_⟩
      conv => whnf
      refine ⟨wkC w, by rw [wkC_length hkl]; rfl, y5.all, ?_⟩
      conv => whnf
      refine ⟨_, rfl, _, rended_fn 5 o5 kk hs hw hnum, ?_⟩
      rintro _ h20 ⟨wv', rfl, o20, x20, f20⟩
      obtain ⟨a20, c20, e20, _⟩ := OW.fix o20
      subst e20
      have z20 := x20.size
      replace yr := x20.blk yr
      conv => whnf
      refine store_ref yr ?_
      intro h21 w21
      have z21 := w21.size
      refine cw_ret ?_
      conv => whnf
      rw [es]
      refine ⟨_, rfl, w21.new.all, _, rfl, ?_, ⟨by omega, fun b hb => by rw [w21.block b (by omega), x20.block b (by omega), x05.block b hb]⟩, fun b hb => .inr (by have := f20 b hb; omega)⟩
      exact OwnS.keep o20 w21.chg (fun b hb e => by subst e; exact OwnS.ne o20 yr (by decide) hb)
    | false =>
      have hst : ¬ (w.st = 1 ∨ w.st = 2 ∨ w.st = 3 ∨ w.st = 4) := fun e => by rw [(live_iff w).2 e] at hlv; cases hlv
      conv => whnf
      have es : endS ws ((i : Int) + 1) 5 [1, 2, 3, 4] = (ws, 0, 261) := by
        unfold endS
        have e := find_out hw (l := [1, 2, 3, 4]) (by simp; omega)
        rw [if_neg (by rw [e]; decide), e]
      refine cw_true rfl ?_
      refine cw_seq (cw_region rfl ?_)
      conv => whnf
      refine ⟨refC wk sl id (.slice va ws.length vc), rfl, y1.all, ?_⟩
      conv => whnf
      refine store_ref yr ?_
      intro h6 w6
      have z6 := w6.size
      refine cw_ret ?_
      conv => whnf
      rw [es]
      exact ⟨_, rfl, w6.new.all, _, rfl, OwnS.keep o5 w6.chg (fun b hb e => by subst e; exact OwnS.ne o5 yr (by decide) hb), ⟨by omega, fun b hb => by rw [w6.block b (by omega), x05.block b hb]⟩, fun b hb => .inl hb⟩
theorem rkill_fn {h : Heap} {wv : Value} {wk sl id : Int} {ws : List Wk} (n : Int) (o : OW h wv ws) (kk : keysOk ws) (I : Inv wk sl id ws) (hs : ws.length ≤ 1000000000) :
    Fx Try.prog 46 #[.agg (refC wk sl id wv).toArray, .int .i64 n] h fun u h' => ∃ wv', u = .tuple #[.agg (refC wk sl id wv').toArray, .int .i64 (endS ws n 6 [1, 2, 3, 4, 5]).2.1, .int .i64 (endS ws n 6 [1, 2, 3, 4, 5]).2.2] ∧ OW h' wv' (endS ws n 6 [1, 2, 3, 4, 5]).1 ∧ ExtH h h' ∧ ∀ b, ob wv' b → ob wv b ∨ h.size ≤ b := by
  refine fn_of 29 Try.func46 rfl (by kernel_rfl) rfl (by simp) ?_
  obtain ⟨va, vc, hve, hvm⟩ := o.fix
  subst hve
  have hmax : maxLen < 9223372036854775808 := by decide
  refine cw_seq (cw_region rfl ?_)
  conv => whnf
  intro h1 n1
  have y1 : Blk h1 h.size (refC wk sl id (.slice va ws.length vc)) 53 := n1.blk
  have x1 := n1.ext
  have z1 := n1.size
  clear n1
  conv => whnf
  intro h2 n2
  have yr : Blk h2 h1.size (refC 0 0 0 (.slice none 0 0)) 53 := n2.blk
  have x2 := n2.ext
  have z2 := n2.size
  clear n2
  replace y1 := x2.blk y1
  conv => whnf
  refine cw_seq (cw_region rfl ?_)
  conv => whnf
  refine ⟨refC wk sl id (.slice va ws.length vc), rfl, y1.all, ?_⟩
  conv => whnf
  refine ⟨_, rfl, _, rlook_fn n ((o.more x1).more x2) kk, ?_⟩
  rintro _ h3 ⟨rfl, x3⟩
  have hkl := rlook_key kk n
  conv => whnf
  intro h4 n4
  conv => whnf
  refine store_wk (a := zeroW) n4.blk zeroW_key hkl ?_
  intro h5 w5
  have z3 := x3.size
  have z4 := n4.size
  have z5 := w5.size
  have x35 : ExtH h3 h5 := ⟨by omega, fun b hb => by rw [w5.block b (by omega), n4.block b hb]⟩
  have y5 := w5.new
  clear n4 w5
  replace y1 := x35.blk (x3.blk y1)
  replace yr := x35.blk (x3.blk yr)
  have o5 := (((o.more x1).more x2).more x3).more x35
  have x05 := ((x1.trans x2).trans x3).trans x35
  conv => whnf
  refine cw_seq (cw_seq (cw_region rfl ?_))
  by_cases hr : n < 1 ∨ (ws.length : Int) < n
  · have es : endS ws n 6 [1, 2, 3, 4, 5] = (ws, 0, 260) := by unfold endS; rw [find_no hr]; rfl
    refine cw_bne_yes rfl (by rw [rlook_no hr]; decide) ?_
    refine cw_seq (cw_region rfl ?_)
    conv => whnf
    refine ⟨refC wk sl id (.slice va ws.length vc), rfl, y1.all, ?_⟩
    conv => whnf
    refine store_ref yr ?_
    intro h6 w6
    have z6 := w6.size
    refine cw_ret ?_
    conv => whnf
    rw [es]
    exact ⟨_, rfl, w6.new.all, _, by show one [_, .int .i64 0, .int .i64 (rlookS ws n).2] = _; rw [rlook_no hr]; rfl, OwnS.keep o5 w6.chg (fun b hb e => by subst e; exact OwnS.ne o5 yr (by decide) hb), ⟨by omega, fun b hb => by rw [w6.block b (by omega), x05.block b hb]⟩, fun b hb => .inl hb⟩
  · obtain ⟨i, w, rfl, hw⟩ := place hr
    rw [rlook_yes hw] at y5 hkl
    have hok := I.ok (List.mem_of_getElem? hw)
    have hnum := I.num i w hw
    have hlim := I.lim
    unfold okLim at hlim
    have hil := (List.getElem?_eq_some_iff.1 hw).1
    simp only at y5 hkl
    refine cw_bne_no rfl (by rw [rlook_yes hw]) (cw_skip ?_)
    refine cw_seq (cw_seq (cw_region rfl ?_))
    conv => whnf
    refine ⟨_, y5.rd (o := 1) rfl, ?_⟩
    conv => whnf
    have hrng := hok.st
    by_cases h6' : w.st = 6
    · have es : endS ws ((i : Int) + 1) 6 [1, 2, 3, 4, 5] = (ws, 0, 261) := by
        unfold endS
        have e := find_out hw (l := [1, 2, 3, 4, 5]) (by simp; omega)
        rw [if_neg (by rw [e]; decide), e]
      refine cw_beq_yes rfl h6' ?_
      refine cw_seq (cw_region rfl ?_)
      conv => whnf
      refine ⟨refC wk sl id (.slice va ws.length vc), rfl, y1.all, ?_⟩
      conv => whnf
      refine store_ref yr ?_
      intro h6 w6
      have z6 := w6.size
      refine cw_ret ?_
      conv => whnf
      rw [es]
      exact ⟨_, rfl, w6.new.all, _, rfl, OwnS.keep o5 w6.chg (fun b hb e => by subst e; exact OwnS.ne o5 yr (by decide) hb), ⟨by omega, fun b hb => by rw [w6.block b (by omega), x05.block b hb]⟩, fun b hb => .inl hb⟩
    · have es : endS ws ((i : Int) + 1) 6 [1, 2, 3, 4, 5] = (ws.set i { w with st := 6, ld := 0, id := 0 }, w.ld, 0) := by
        unfold endS
        rw [if_pos (find_in hw (by simp; omega)), atN_eq rfl hw, upN_eq rfl]
      refine cw_beq_no rfl h6' (cw_skip ?_)
      refine cw_seq (cw_region rfl ?_)
      conv => whnf
      refine ⟨refC wk sl id (.slice va ws.length vc), rfl, y1.all, ?_⟩
      conv => whnf
      refine ⟨wkC w, by rw [wkC_length hkl]; rfl, y5.all, ?_⟩
      conv => whnf
      refine ⟨_, rfl, _, rended_fn 6 o5 kk hs hw hnum, ?_⟩
      rintro _ h20 ⟨wv', rfl, o20, x20, f20⟩
      obtain ⟨a20, c20, e20, _⟩ := OW.fix o20
      subst e20
      have z20 := x20.size
      replace yr := x20.blk yr
      conv => whnf
      refine store_ref yr ?_
      intro h21 w21
      have z21 := w21.size
      refine cw_ret ?_
      conv => whnf
      rw [es]
      refine ⟨_, rfl, w21.new.all, _, rfl, ?_, ⟨by omega, fun b hb => by rw [w21.block b (by omega), x20.block b (by omega), x05.block b hb]⟩, fun b hb => .inr (by have := f20 b hb; omega)⟩
      exact OwnS.keep o20 w21.chg (fun b hb e => by subst e; exact OwnS.ne o20 yr (by decide) hb)
end Go.Proofs.Ytcmjgkjnnmfijaa
