/-
  Package pool's Tick.
-/
import Derived.Test.YtcmjgkjnnmfijaaPoolAll
namespace Go.Proofs.Ytcmjgkjnnmfijaa
open Go Vm
set_option maxRecDepth 100000
set_option linter.unusedVariables false
theorem infoI : (Try.prog.info? 3).map (fun i => (i.zero, i.size, i.bytes)) = some (some (.int .i64 0), 1, 8) := by kernel_rfl
/-- our own integers -/
def OI (h : Heap) (v : Value) (l : List Int) : Prop := OwnS h 3 1 v l.length (l.map (Value.int .i64))
theorem OI.r {h : Heap} {v : Value} {l : List Int} (o : OI h v l) : RI h v l := OwnS.src o
theorem OI.nil (h : Heap) : OI h (.slice none 0 0) [] := OwnS.nil h _ _
theorem OI.more {h h' : Heap} {v : Value} {l : List Int} (o : OI h v l) (e : ExtH h h') : OI h' v l := OwnS.more o e
theorem OI.keep {S : Nat → Prop} {h h' : Heap} {v : Value} {l : List Int} (o : OI h v l) (c : Chg S h h') (hn : ∀ b, ob v b → ¬ S b) : OI h' v l := OwnS.keep o c hn
theorem append_i {h : Heap} {v x : Value} {l m : List Int} {ty : TypeId} (hd : OI h v l) (hs : RI h x m) (hl : l.length + m.length ≤ 1000000000000) :
    RunsV Try.prog (Builtin.append_ #[35, 35] ty #[v, x]) h fun v' h' => OI h' v' (l ++ m) ∧ Chg (ob v) h h' ∧ ∀ b, ob v' b → ob v b ∨ h.size ≤ b := by
  obtain ⟨i0, hi, hz0, hz1, hz2⟩ := info_parts infoI
  have := append_own (P := Try.prog) (t := 35) (ty := ty) (e := 3) rfl hi hz0 (by rw [hz1]; rfl) hz1 hd hs (fun u hu => by obtain ⟨_, _, rfl⟩ := List.mem_map.1 hu; rfl) (by unfold maxLen; omega) (by rw [hz2]; omega)
  refine this.mono fun v' h' ⟨h1, h2, h3⟩ => ⟨?_, h2, h3⟩
  unfold OI
  simpa using h1
theorem PoolAt.setCellO {h : Heap} {p g c : Nat} {wk sl id : Int} {ws : List Wk} {i k o : Nat} {w w' : Wk} {u : Value} (A : PoolAt h p (.slice (some ⟨g, 0, none⟩) ws.length c) wk sl id ws) (hw : ws[i]? = some w) (ho : o = i * 37 + k) (hk : k < 37) (hs : (wkC w).set k u = wkC w') (hk' : w'.key.length = 32)
    (K : Heap → Prop) (H : ∀ h', PoolAt h' p (.slice (some ⟨g, 0, none⟩) ws.length c) wk sl id (ws.set i w') → Chg (fun b => b = g) h h' → K h') : ∃ l t, Blk h g l t ∧ o < l.length ∧ ∀ h', Wrote h h' g (l.set o u) t → K h' := by
  subst ho
  exact A.setCell hw hk hs hk' K H
theorem turn_fnO {h : Heap} {p g c o : Nat} {wk sl id : Int} {ws : List Wk} {i : Nat} {w : Wk} (s d : Int) (A : PoolAt h p (.slice (some ⟨g, 0, none⟩) ws.length c) wk sl id ws) (hw : ws[i]? = some w) (ho : o = i * 37) :
    Fx Try.prog 35 #[.pointer (some ⟨g, o, none⟩), .int .i64 s, .int .i64 d] h fun u h' => u = .tuple #[] ∧ PoolAt h' p (.slice (some ⟨g, 0, none⟩) ws.length c) wk sl id (ws.set i { w with st := s, ld := d, id := 0 }) ∧ Chg (fun b => b = g) h h' := by
  subst ho
  exact turn_fn s d A hw
theorem PoolAt.idAt {h : Heap} {p g c : Nat} {wk sl id : Int} {ws : List Wk} {i : Nat} {w : Wk} (A : PoolAt h p (.slice (some ⟨g, 0, none⟩) ws.length c) wk sl id ws) (hw : ws[i]? = some w) : rd h ⟨g, i * 37 + 36, none⟩ = some (.int .i64 w.id) :=
  A.worker hw 36 _ (wkC_get_id (keysOk_get A.keys hw))
theorem PoolAt.nAt {h : Heap} {p g c : Nat} {wk sl id : Int} {ws : List Wk} {i : Nat} {w : Wk} (A : PoolAt h p (.slice (some ⟨g, 0, none⟩) ws.length c) wk sl id ws) (hw : ws[i]? = some w) : rd h ⟨g, i * 37, none⟩ = some (.int .i64 w.n) :=
  A.worker hw 0 _ rfl
def tickW (id : Int) (w : Wk) : Wk := if w.st = 2 then (if id ≤ w.id + 1 then { w with st := 6, ld := 0, id := 0 } else { w with id := w.id + 1 }) else w
def tickB (id : Int) (w : Wk) : Bool := decide (w.st = 2) && decide (id ≤ w.id + 1)
def tickOut (id : Int) (ws : List Wk) : List Int := (ws.filter (tickB id)).map Wk.n
theorem tick_step (f : Wk → Wk) (ws : List Wk) (t : Nat) (w : Wk) (hw : ws[t]? = some w) : ((ws.take t).map f ++ ws.drop t).set t (f w) = (ws.take (t + 1)).map f ++ ws.drop (t + 1) := by
  have ht := (List.getElem?_eq_some_iff.1 hw).1
  have e : ws[t] = w := (List.getElem?_eq_some_iff.1 hw).2
  have hl : ((ws.take t).map f).length = t := by simp; omega
  rw [List.drop_eq_getElem_cons ht, List.set_append_right _ _ (by omega), hl, Nat.sub_self, e, List.take_add_one, hw]
  simp
theorem tick_at (f : Wk → Wk) (ws : List Wk) (t : Nat) (w : Wk) (hw : ws[t]? = some w) : ((ws.take t).map f ++ ws.drop t)[t]? = some w := by
  have ht := (List.getElem?_eq_some_iff.1 hw).1
  have hl : ((ws.take t).map f).length = t := by simp; omega
  rw [List.getElem?_append_right (by omega), hl, Nat.sub_self, List.getElem?_drop]
  exact hw
theorem tick_len (f : Wk → Wk) (ws : List Wk) (t : Nat) (ht : t ≤ ws.length) : ((ws.take t).map f ++ ws.drop t).length = ws.length := by
  simp; omega
theorem tick_fn {h : Heap} {p : Nat} {v : Value} {wk sl id : Int} {ws : List Wk} (A : PoolAt h p v wk sl id ws) (I : Inv wk sl id ws) (hs : ws.length ≤ 1000000000) :
    Fx Try.prog 17 #[.pointer (some ⟨p, 0, none⟩)] h fun u h' => OI h' u (tickOut id ws) ∧ PoolAt h' p v wk sl id (ws.map (tickW id)) ∧ Chg (ob v) h h' ∧ ∀ b, ob u b → h.size ≤ b := by
  have hwk : 0 < wk := by have := I.lim.1; omega
  refine fn_of 56 Try.func17 rfl (by kernel_rfl) rfl (by simp) ?_
  obtain ⟨va, vc, hve, hvm⟩ := A.fix
  have hmax : maxLen < 9223372036854775808 := by decide
  refine cw_seq (cw_region rfl ?_)
  refine cw_seq (cw_seq (cw_region rfl ?_))
  conv => whnf
  refine ⟨_, rfl, _, made_fn A, ?_⟩
  rw [decide_eq_true hwk]
  rintro _ h0 ⟨rfl, e⟩
  subst h0
  conv => whnf
  refine cw_false rfl (cw_skip ?_)
  refine cw_seq (cw_region rfl ?_)
  refine cw_seq (cw_seq (cw_region rfl ?_))
  conv => whnf
  refine ⟨_, A.blk.rd (o := 3) rfl, ?_⟩
  subst hve
  conv => whnf
  refine cw_block ?_
  refine cw_loop (S := Nat × Value) (fun s => match s with | (t, lv) => [(0, .pointer (some ⟨p, 0, none⟩)), (3, lv), (13, .int .i64 (ws.length : Int)), (14, .int .i64 (t : Int))])
    (fun s h' => s.1 ≤ ws.length ∧ Chg (ob (.slice va ws.length vc)) h h' ∧ PoolAt h' p (.slice va ws.length vc) wk sl id ((ws.take s.1).map (tickW id) ++ ws.drop s.1) ∧ OI h' s.2 (tickOut id (ws.take s.1)) ∧ ∀ b, ob s.2 b → h.size ≤ b) (fun s => ws.length - s.1) (0, .slice none 0 0) ⟨rfl, rfl, rfl, rfl, trivial⟩
    ⟨by show 0 ≤ _; omega, (ExtH.refl h).chg, by simpa using A, OI.nil h, fun b hb => (ob_nil hb).elim⟩ ?_
  rintro ⟨t, lv⟩ h1 ⟨ht, x1, A1, o1, f1⟩
  simp only at ht A1 o1 f1
  obtain ⟨la, lc, hle, _⟩ := (OwnS.src o1).form
  subst hle
  refine cw_seq (cw_region rfl ?_)
  by_cases hlt : t < ws.length
  · refine cw_seq (cw_yes rfl (by show (t : Int) < _; omega) (cw_skip ?_))
    have hw0 : ws[t]? = some ws[t] := List.getElem?_eq_getElem hlt
    generalize ws[t] = w at hw0
    have hw := tick_at (tickW id) ws t w hw0
    have hid := I.get hw0
    have hid2 := I.lim.2.2.2.2.2
    have hL := tick_len (tickW id) ws t ht
    have hstep := tick_step (tickW id) ws t w hw0
    have hout : tickOut id (ws.take (t + 1)) = tickOut id (ws.take t) ++ (if tickB id w then [w.n] else []) := by
      unfold tickOut
      rw [List.take_add_one, hw0, List.filter_append]
      cases h : tickB id w <;> simp [h]
    have hol : (tickOut id (ws.take t)).length ≤ t := by
      unfold tickOut
      rw [List.length_map]
      exact Nat.le_trans (List.length_filter_le _ _) (by rw [List.length_take]; omega)
    generalize hW : (ws.take t).map (tickW id) ++ ws.drop t = W at A1 hw hL hstep
    have hk := keysOk_get A1.keys hw
    obtain ⟨g, c, tl, hv, hb, _⟩ := A1.slot (by rw [hL]; exact hlt)
    injection hv with hv1 _ hv2
    subst hv1 hv2
    rw [← hL] at A1
    have fresh : ∀ b, ob (.slice la (tickOut id (ws.take t)).length lc) b → b ≠ g := fun b hb e => by
      have h1 := f1 b hb
      have h2 := OwnS.lt A.own (b := g) (ob_slice.2 rfl)
      omega
    refine cw_seq (cw_block (cw_seq (cw_region rfl ?_)))
    conv => whnf
    refine cw_seq (cw_region rfl ?_)
    conv => whnf
    refine ⟨_, A1.blk.rd (o := 3) rfl, ?_⟩
    conv => whnf
    refine ⟨⟨by omega, by omega⟩, ?_⟩
    have et : 0 + ((t : Int)).toNat * 37 = t * 37 := by omega
    conv => whnf
    refine cw_seq (cw_seq (cw_region rfl ?_))
    conv => whnf
    refine ⟨wkC w, by rw [wkC_length hk]; rfl, by have := A1.worker hw; rw [← et] at this; exact this, ?_⟩
    conv => whnf
    refine ⟨_, rfl, #[.int .i64 2], 77, fun w => by kernel_rfl, ?_⟩
    intro h2 n2
    conv => whnf
    refine ⟨_, rfl, _, is_fn w hk (RI.of_newed n2 (l := [2]) rfl rfl (by decide)), ?_⟩
    rintro _ h3 ⟨rfl, x3⟩
    replace x3 := n2.ext.trans x3
    have A3 := A1.more x3
    have o3 := o1.more x3
    have z3 := x3.size
    have z1 := x1.size
    by_cases hst : w.st = 2
    · rw [decide_eq_true (show w.st ∈ [(2 : Int)] by simp [hst])]
      conv => whnf
      refine cw_false rfl (cw_skip ?_)
      refine cw_seq (cw_region rfl ?_)
      conv => whnf
      refine ⟨_, by have := A3.idAt hw; rw [← et] at this; exact this, ?_⟩
      conv => whnf
      obtain ⟨m, hm⟩ : ∃ m : Nat, w.id + 1 = (m : Int) := ⟨(w.id + 1).toNat, by omega⟩
      rw [i64_eq (w.id + 1) m hm (by omega), ← hm]
      refine A3.setCellO hw (k := 36) (o := 0 + ((t : Int)).toNat * 37 + 36) (by omega) (by omega) (wkC_id hk (w.id + 1)) hk _ (fun h4 A4 c4 => ?_)
      have hw4 : (W.set t { w with id := w.id + 1 })[t]? = some { w with id := w.id + 1 } := by rw [List.getElem?_set_self (by omega)]
      have A4' : PoolAt h4 p (.slice (some ⟨g, 0, none⟩) (W.set t { w with id := w.id + 1 }).length vc) wk sl id (W.set t { w with id := w.id + 1 }) := by rw [List.length_set]; exact A4
      have x04 : Chg (ob (.slice (some ⟨g, 0, none⟩) ws.length vc)) h h4 := (x1.trans (x3.chg (S := fun _ => False)) |>.trans c4).mono (fun b _ e => by
        rcases e with (e | e) | e
        · exact e
        · exact e.elim
        · exact ob_slice.2 e)
      refine cw_seq ?_
      refine cw_drawn (by kernel_rfl) 8 (fun _ => false) (List.range 8) (by kernel_rfl) rfl ?_
      conv => whnf
      refine ⟨_, by have := A4'.idAt hw4; rw [← et] at this; exact this, ?_⟩
      conv => whnf
      refine ⟨_, A4'.blk.rd (o := 2) rfl, ?_⟩
      conv => whnf
      intro h5 x5
      conv => whnf
      have A5 := A4'.more x5
      have x05 : Chg (ob (.slice (some ⟨g, 0, none⟩) ws.length vc)) h h5 := (x04.trans (x5.chg (S := fun _ => False))).mono (fun b _ e => e.elim (fun e => e) False.elim)
      have o5 := (o3.keep c4 fresh).more x5
      have z4 := c4.size; have z5 := x5.size
      by_cases hdie : id ≤ w.id + 1
      · have ef : tickW id w = { w with st := 6, ld := 0, id := 0 } := by simp [tickW, hst, hdie]
        have eb : tickB id w = true := by simp [tickB, hst, hdie]
        rw [eb] at hout
        rw [ef] at hstep
        refine cw_yes rfl hdie ?_
        refine cw_seq (cw_region rfl ?_)
        conv => whnf
        refine ⟨_, rfl, _, turn_fnO 6 0 (o := 0 + ((t : Int)).toNat * 37) A5 hw4 et, ?_⟩
        rintro _ h6 ⟨rfl, A6, c6⟩
        rw [List.set_set] at A6
        have o6 := o5.keep c6 fresh
        have hlW : (W.set t { w with st := 6, ld := 0, id := 0 }).length = W.length := List.length_set
        have hw6 : (W.set t { w with st := 6, ld := 0, id := 0 })[t]? = some { w with st := 6, ld := 0, id := 0 } := by rw [List.getElem?_set_self (by omega)]
        have A6' : PoolAt h6 p (.slice (some ⟨g, 0, none⟩) (W.set t { w with st := 6, ld := 0, id := 0 }).length vc) wk sl id (W.set t { w with st := 6, ld := 0, id := 0 }) := by
          rw [List.length_set]
          rw [List.length_set] at A6
          exact A6
        have z6 := c6.size
        have x06 : Chg (ob (.slice (some ⟨g, 0, none⟩) ws.length vc)) h h6 := (x05.trans c6).mono (fun b _ e => e.elim (fun e => e) (fun e => ob_slice.2 e))
        refine cw_region rfl ?_
        conv => whnf
        refine ⟨_, by have := A6'.nAt hw6; rw [← et] at this; exact this, ?_⟩
        conv => whnf
        refine ⟨_, rfl, #[.int .i64 w.n], 3, fun w => by kernel_rfl, ?_⟩
        intro h7 n7
        conv => whnf
        refine ⟨_, rfl, _, append_i (ty := 35) (o6.more n7.ext) (RI.of_newed n7 (l := [w.n]) rfl rfl (by show 1 ≤ maxLen; decide)) (by show (tickOut id (ws.take t)).length + 1 ≤ _; omega), ?_⟩
        rintro v8 h8 ⟨o8, c8, f8⟩
        have x7 := n7.ext
        have z7 := x7.size
        have z8 := c8.size
        have A8 := (A6'.more x7).keep c8 (fun e => by
          have h1 := f1 _ e
          have h2 := A.blk.lt
          omega) (fun b hb e => by
          rw [ob_slice] at hb
          subst hb
          exact fresh _ e rfl)
        rw [hstep, tick_len (tickW id) ws (t + 1) (by omega)] at A8
        have x08 : Chg (ob (.slice (some ⟨g, 0, none⟩) ws.length vc)) h h8 := ⟨by omega, fun b hb hn => by
          rw [c8.block b (by omega) (fun e => by have := f1 b e; omega), x7.block b (by omega), x06.block b hb hn]⟩
        refine cw_region rfl ?_
        exact ⟨(t + 1, v8), ⟨rfl, rfl, rfl, slot_i64 _ _ (by simp) (by show t + 1 < _; omega), trivial⟩, ⟨by show t + 1 ≤ _; omega, x08, A8, by rw [hout]; exact o8, fun b hb => (f8 b hb).elim (f1 b) (fun e => by omega)⟩, by show ws.length - (t + 1) < ws.length - t; omega⟩
      · have ef : tickW id w = { w with id := w.id + 1 } := by simp [tickW, hst, hdie]
        have eb : tickB id w = false := by simp [tickB, hst, hdie]
        rw [eb] at hout
        rw [ef] at hstep
        refine cw_no rfl hdie (cw_skip ?_)
        refine cw_region rfl ?_
        rw [hstep, tick_len (tickW id) ws (t + 1) (by omega)] at A5
        exact ⟨(t + 1, _), ⟨rfl, rfl, rfl, slot_i64 _ _ (by simp) (by show t + 1 < _; omega), trivial⟩, ⟨by show t + 1 ≤ _; omega, x05, A5, by rw [hout]; simpa using o5, f1⟩, by show ws.length - (t + 1) < ws.length - t; omega⟩
    · rw [decide_eq_false (show ¬ w.st ∈ [(2 : Int)] by simp [hst])]
      conv => whnf
      refine cw_true rfl (cw_exit ?_)
      have ef : tickW id w = w := by simp [tickW, hst]
      have eb : tickB id w = false := by simp [tickB, hst]
      rw [eb] at hout
      rw [ef] at hstep
      have eW : W.set t w = W := by
        apply List.ext_getElem?
        intro i
        rw [List.getElem?_set]
        split
        · rename_i e; subst e; rw [if_pos (by omega), hw]
        · rfl
      rw [eW] at hstep
      rw [hstep, tick_len (tickW id) ws (t + 1) (by omega)] at A3
      refine cw_region rfl ?_
      exact ⟨(t + 1, _), ⟨rfl, rfl, rfl, slot_i64 _ _ (by simp) (by show t + 1 < _; omega), trivial⟩, ⟨by show t + 1 ≤ _; omega, (x1.trans (x3.chg (S := fun _ => False))).mono (fun b _ e => e.elim (fun e => e) False.elim), A3, by rw [hout]; simpa using o3, f1⟩, by show ws.length - (t + 1) < ws.length - t; omega⟩
  · refine cw_seq (cw_no rfl (by show ¬ (t : Int) < _; omega) (cw_exit ?_))
    have tn : t = ws.length := by omega
    subst tn
    rw [List.take_length] at o1 A1 f1
    rw [List.drop_length, List.append_nil] at A1
    rw [List.take_length]
    refine cw_seq (cw_region rfl ?_)
    exact cw_ret ⟨o1, A1, x1, f1⟩
end Go.Proofs.Ytcmjgkjnnmfijaa
