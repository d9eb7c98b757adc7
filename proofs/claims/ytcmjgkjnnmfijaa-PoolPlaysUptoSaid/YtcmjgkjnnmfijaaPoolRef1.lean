/-
  The document's pool: lives, Live, Look, with, ended, All, Same.
-/
import Derived.Test.YtcmjgkjnnmfijaaPoolNobodyW
namespace Go.Proofs.Ytcmjgkjnnmfijaa
open Go Vm
set_option maxRecDepth 100000
set_option linter.unusedVariables false
set_option linter.unusedSimpArgs false
def refC (wk sl id : Int) (wv : Value) : List Value := [.int .i64 wk, .int .i64 sl, .int .i64 id, wv]
theorem isLive_and (w : Wk) : isLive w = (decide (1 ≤ w.st) && decide (w.st ≤ 4)) := by
  unfold isLive
  rw [← Bool.decide_and]
  simp only [decide_eq_decide]
  simp
  omega
theorem rlives_fn {h : Heap} (w : Wk) (hk : w.key.length = 32) : Fx Try.prog 60 #[.agg (wkC w).toArray] h fun u h' => u = .bool (isLive w) ∧ ExtH h h' := by
  refine fn_of 11 Try.func60 rfl (by kernel_rfl) rfl (by simp) ?_
  refine cw_seq (cw_region rfl ?_)
  conv => whnf
  intro h1 n1
  have y1 : Blk h1 h.size (wkC w) 31 := n1.blk
  have x1 := n1.ext
  clear n1
  rw [isLive_and]
  refine cw_seq (cw_region rfl ?_)
  conv => whnf
  refine ⟨_, y1.rd (o := 1) rfl, ?_⟩
  by_cases h1' : 1 ≤ w.st
  · rw [decide_eq_true h1']
    refine ops_q (v := .bool true) rfl rfl (fun k hk => say true (decide_eq_true h1') hk) ?_
    conv => whnf
    refine ⟨_, y1.rd (o := 1) rfl, ?_⟩
    conv => whnf
    exact cw_ret ⟨rfl, x1⟩
  · rw [decide_eq_false h1']
    refine ops_q (v := .bool false) rfl rfl (fun k hk => say false (decide_eq_false h1') hk) ?_
    conv => whnf
    exact cw_ret ⟨rfl, x1⟩
theorem rlive_fn {h : Heap} {wv : Value} {wk sl id : Int} {ws : List Wk} (o : OW h wv ws) (kk : keysOk ws) :
    Fx Try.prog 54 #[.agg (refC wk sl id wv).toArray] h fun u h' => u = .int .i64 (ws.countP isLive : Int) ∧ ExtH h h' := by
  refine fn_of 21 Try.func54 rfl (by kernel_rfl) rfl (by simp) ?_
  obtain ⟨va, vc, hve, hvm⟩ := o.fix
  subst hve
  have hmax : maxLen < 9223372036854775808 := by decide
  refine cw_seq (cw_region rfl ?_)
  conv => whnf
  intro h1 n1
  have y1 : Blk h1 h.size (refC wk sl id (.slice va ws.length vc)) 53 := n1.blk
  have x1 := n1.ext
  clear n1
  conv => whnf
  refine cw_seq (cw_region rfl ?_)
  refine cw_seq (cw_seq (cw_region rfl ?_))
  refine cw_block ?_
  refine cw_loop (S := Nat) (fun t => [(1, .pointer (some ⟨h.size, 0, none⟩)), (3, .int .i64 ((ws.take t).countP isLive : Int)), (4, .int .i64 (t : Int))])
    (fun t h' => t ≤ ws.length ∧ ExtH h1 h') (fun t => ws.length - t) 0 ⟨rfl, rfl, rfl, trivial⟩ ⟨by omega, ExtH.refl _⟩ ?_
  rintro t h2 ⟨ht, x2⟩
  have y2 := x2.blk y1
  refine cw_seq (cw_seq (cw_region rfl ?_))
  conv => whnf
  refine ⟨_, y2.rd (o := 3) rfl, ?_⟩
  conv => whnf
  by_cases hlt : t < ws.length
  · refine cw_yes rfl (by show (t : Int) < _; omega) (cw_skip ?_)
    have hw : ws[t]? = some ws[t] := List.getElem?_eq_getElem hlt
    generalize ws[t] = w at hw
    have hk := keysOk_get kk hw
    obtain ⟨g, c, hv, hr⟩ := ((o.more x1).more x2).get kk hw
    injection hv with hv1 _ hv2
    subst hv1 hv2
    have hcount := count_take isLive ws t w hw
    have hcle : (ws.take t).countP isLive ≤ t := Nat.le_trans List.countP_le_length (by rw [List.length_take]; omega)
    refine cw_seq (cw_block (cw_seq (cw_region rfl ?_)))
    conv => whnf
    refine ⟨_, y2.rd (o := 3) rfl, ?_⟩
    conv => whnf
    refine ⟨⟨by omega, by omega⟩, ?_⟩
    conv => whnf
    refine ⟨wkC w, by rw [wkC_length hk]; rfl, by rwa [show t * 37 = 0 + ((t : Int)).toNat * 37 by omega] at hr, ?_⟩
    conv => whnf
    refine ⟨_, rfl, _, rlives_fn w hk, ?_⟩
    rintro _ h3 ⟨rfl, x3⟩
    cases hlv : isLive w with
    | true =>
      rw [hlv] at hcount
      refine cw_true rfl ?_
      refine cw_region rfl ?_
      conv => whnf
      refine cw_region rfl ?_
      exact ⟨t + 1, ⟨rfl, slot_i64 _ _ (by rw [hcount]; simp) (by rw [hcount, if_pos rfl]; omega), slot_i64 _ _ (by omega) (by omega), trivial⟩, ⟨by omega, x2.trans x3⟩, by omega⟩
    | false =>
      rw [hlv] at hcount
      refine cw_false rfl (cw_skip ?_)
      refine cw_region rfl ?_
      exact ⟨t + 1, ⟨rfl, by show some (Value.int .i64 _) = some (Value.int .i64 _); rw [hcount]; simp, slot_i64 _ _ (by omega) (by omega), trivial⟩, ⟨by omega, x2.trans x3⟩, by omega⟩
  · refine cw_no rfl (by show ¬ (t : Int) < _; omega) (cw_exit ?_)
    have tn : t = ws.length := by omega
    subst tn
    rw [List.take_length]
    refine cw_seq (cw_region rfl ?_)
    exact cw_ret ⟨rfl, x1.trans x2⟩
def rlookS (ws : List Wk) (n : Int) : Wk × Int := if n < 1 ∨ (ws.length : Int) < n then (zeroW, 260) else (ws.getD (n.toNat - 1) zeroW, 0)
theorem rlook_fn {h : Heap} {wv : Value} {wk sl id : Int} {ws : List Wk} (n : Int) (o : OW h wv ws) (kk : keysOk ws) :
    Fx Try.prog 50 #[.agg (refC wk sl id wv).toArray, .int .i64 n] h fun u h' => u = .tuple #[.agg (wkC (rlookS ws n).1).toArray, .int .i64 (rlookS ws n).2] ∧ ExtH h h' := by
  refine fn_of 22 Try.func50 rfl (by kernel_rfl) rfl (by simp) ?_
  obtain ⟨va, vc, hve, hvm⟩ := o.fix
  subst hve
  have hmax : maxLen < 9223372036854775808 := by decide
  refine cw_seq (cw_region rfl ?_)
  conv => whnf
  intro h1 n1
  have y1 : Blk h1 h.size (refC wk sl id (.slice va ws.length vc)) 53 := n1.blk
  have x1 := n1.ext
  clear n1
  conv => whnf
  intro h2 n2
  have y2 : Blk h2 h1.size (wkC zeroW) 31 := n2.blk
  have x2 := n2.ext
  clear n2
  replace y1 := x2.blk y1
  have z1 := x1.size; have z2 := x2.size
  conv => whnf
  unfold rlookS
  have fin1 : ∀ (w : Wk), w.key.length = 32 → ∀ h3, Wrote h2 h3 h1.size (wkC w) 31 → ExtH h h3 := fun w hw h3 w3 => ⟨by have := w3.size; omega, fun b hb => by rw [w3.block b (by omega), x2.block b (by omega), x1.block b hb]⟩
  refine cw_seq (cw_seq (cw_region rfl ?_))
  refine ops_q rfl rfl (fun k hk => hk) ?_
  by_cases hn1 : n < 1
  · rw [if_pos (.inl hn1)]
    refine ops_q (v := .bool true) rfl rfl (fun k hk => say true (decide_eq_true hn1) hk) ?_
    conv => whnf
    refine cw_true rfl ?_
    refine cw_seq (cw_region rfl ?_)
    conv => whnf
    refine ⟨_, rfl, (wkC zeroW).toArray, fun w => by kernel_rfl, ?_⟩
    conv => whnf
    refine store_wk (a := zeroW) y2 zeroW_key zeroW_key ?_
    intro h3 w3
    refine cw_ret ?_
    conv => whnf
    exact ⟨_, by rfl, w3.new.all, rfl, fin1 _ zeroW_key h3 w3⟩
  · refine ops_q (v := .bool false) rfl rfl (fun k hk => say false (decide_eq_false hn1) hk) ?_
    conv => whnf
    refine ⟨_, y1.rd (o := 3) rfl, ?_⟩
    conv => whnf
    by_cases hn2 : (ws.length : Int) < n
    · rw [if_pos (.inr hn2)]
      refine cw_yes rfl hn2 ?_
      refine cw_seq (cw_region rfl ?_)
      conv => whnf
      refine ⟨_, rfl, (wkC zeroW).toArray, fun w => by kernel_rfl, ?_⟩
      conv => whnf
      refine store_wk (a := zeroW) y2 zeroW_key zeroW_key ?_
      intro h3 w3
      refine cw_ret ?_
      conv => whnf
      exact ⟨_, by rfl, w3.new.all, rfl, fin1 _ zeroW_key h3 w3⟩
    · rw [if_neg (fun e => e.elim hn1 hn2)]
      obtain ⟨i, hi⟩ : ∃ i : Nat, n = (i : Int) + 1 := ⟨(n - 1).toNat, by omega⟩
      have hil : i < ws.length := by omega
      have hw : ws[i]? = some ws[i] := List.getElem?_eq_getElem hil
      generalize ws[i] = w at hw
      have hg : ws.getD (n.toNat - 1) zeroW = w := by rw [show n.toNat - 1 = i by omega, List.getD_eq_getElem?_getD, hw]; rfl
      rw [hg]
      have hk := keysOk_get kk hw
      obtain ⟨g, c, hv, hr⟩ := ((o.more x1).more x2).get kk hw
      injection hv with hv1 _ hv2
      subst hv1 hv2
      have ei := i64_eq (n - 1) i (by omega) (by omega)
      refine cw_no rfl hn2 (cw_skip ?_)
      refine cw_seq (cw_region rfl ?_)
      conv => whnf
      refine ⟨_, y1.rd (o := 3) rfl, ?_⟩
      conv => whnf
      rw [ei]
      refine ⟨⟨by omega, by omega⟩, ?_⟩
      conv => whnf
      refine ⟨wkC w, by rw [wkC_length hk]; rfl, by rwa [show i * 37 = 0 + ((i : Int)).toNat * 37 by omega] at hr, ?_⟩
      conv => whnf
      refine store_wk (a := zeroW) y2 zeroW_key hk ?_
      intro h3 w3
      refine cw_ret ?_
      conv => whnf
      exact ⟨_, by rw [wkC_length hk]; rfl, w3.new.all, rfl, fin1 _ hk h3 w3⟩
theorem cellsW_splice {ws : List Wk} (hk : keysOk ws) {i : Nat} {w w' : Wk} (hw : ws[i]? = some w) (hk' : w'.key.length = 32) (tl : List Value) : splice (cellsW ws ++ tl) (i * 37) (wkC w') = cellsW (ws.set i w') ++ tl := by
  induction ws generalizing i with
  | nil => simp at hw
  | cons x ws ih =>
    have hx := wkC_length (hk x (by simp))
    have h' := wkC_length hk'
    cases i with
    | zero =>
      simp only [splice, Nat.zero_mul, List.take_zero, List.nil_append, Nat.zero_add, h', List.set_cons_zero]
      show wkC w' ++ ((wkC x ++ cellsW ws) ++ tl).drop 37 = (wkC w' ++ cellsW ws) ++ tl
      rw [List.append_assoc (wkC x), List.drop_append, List.drop_eq_nil_of_le (by omega), hx]
      simp
    | succ i =>
      have e := ih (fun y hy => hk y (by simp [hy])) (i := i) (by simpa using hw)
      show splice ((wkC x ++ cellsW ws) ++ tl) ((i + 1) * 37) (wkC w') = (wkC x ++ cellsW (ws.set i w')) ++ tl
      rw [List.append_assoc, List.append_assoc, ← e]
      unfold splice
      rw [List.take_append, List.drop_append, hx, h', List.take_of_length_le (by omega), List.drop_eq_nil_of_le (by omega), show (i + 1) * 37 - 37 = i * 37 by omega, show (i + 1) * 37 + 37 - 37 = i * 37 + 37 by omega]
      simp
/-- a worker is written into a list of our own -/
theorem OW.put {h : Heap} {v : Value} {ws : List Wk} (o : OW h v ws) (kk : keysOk ws) {i off : Nat} {w w' : Wk} (hw : ws[i]? = some w) (hk' : w'.key.length = 32) (ho : off = i * 37) :
    ∃ g c, v = .slice (some ⟨g, 0, none⟩) ws.length c ∧ ∀ K : Heap → Prop, (∀ h', OW h' v (ws.set i w') → Chg (fun b => b = g) h h' → K h') →
      ∃ l t, Blk h g l t ∧ (off + (wkC w').toArray.size ≤ l.length ∧ (wkC w').toArray.size = 37 ∧ ∀ x ∈ (wkC w').toArray.toList, x.oneCell' = true) ∧ ∀ h', Wrote h h' g (splice l off (wkC w').toArray.toList) t → K h' := by
  subst ho
  have hlt := (List.getElem?_eq_some_iff.1 hw).1
  have hl' := wkC_length hk'
  have hcl := cellsW_length kk
  rcases o.2 with ⟨rfl, h0⟩ | ⟨g, c, tl, rfl, hb, h1, h2, h3⟩
  · omega
  · refine ⟨g, c, rfl, fun K H => ⟨_, _, hb, ⟨by show i * 37 + (wkC w').length ≤ _; rw [List.length_append]; omega, hl', wkC_one w'⟩, fun h' w7 => ?_⟩⟩
    have w8 := w7.cast (cellsW_splice kk hw hk' tl)
    have kk' := keysOk_set kk (i := i) hk'
    refine H h' ⟨by rw [cellsW_length kk'], .inr ⟨g, c, tl, by rw [List.length_set], w8.new, by rw [List.length_set]; exact h1, h2, ?_⟩⟩ w8.chg
    rw [List.length_append, cellsW_length kk', List.length_set, ← hcl, ← List.length_append]
    exact h3
theorem rwith_fn {h : Heap} {wv : Value} {wk sl id : Int} {ws : List Wk} {i : Nat} {w0 w : Wk} (o : OW h wv ws) (kk : keysOk ws) (hs : ws.length ≤ 1000000000) (hw : ws[i]? = some w0) (hk : w.key.length = 32) (hn : w.n = (i : Int) + 1) :
    Fx Try.prog 59 #[.agg (refC wk sl id wv).toArray, .agg (wkC w).toArray] h fun u h' => ∃ wv', u = .agg (refC wk sl id wv').toArray ∧ OW h' wv' (ws.set i w) ∧ ExtH h h' ∧ ∀ b, ob wv' b → h.size ≤ b := by
  refine fn_of 19 Try.func59 rfl (by kernel_rfl) rfl (by simp) ?_
  obtain ⟨va, vc, hve, hvm⟩ := o.fix
  subst hve
  have hmax : maxLen < 9223372036854775808 := by decide
  have hil := (List.getElem?_eq_some_iff.1 hw).1
  refine cw_seq (cw_region rfl ?_)
  conv => whnf
  intro h1 n1
  have y1 : Blk h1 h.size (refC wk sl id (.slice va ws.length vc)) 53 := n1.blk
  have x1 := n1.ext
  have z1 := n1.size
  clear n1
  conv => whnf
  intro h2 n2
  have yw : Blk h2 h1.size (wkC w) 31 := n2.blk
  have x2 := n2.ext
  have z2 := n2.size
  clear n2
  conv => whnf
  intro h3 n3
  have y3 : Blk h3 h2.size (refC 0 0 0 (.slice none 0 0)) 53 := n3.blk
  have x3 := n3.ext
  have z3 := n3.size
  clear n3
  replace y1 := x3.blk (x2.blk y1)
  replace yw := x3.blk yw
  have x03 := (x1.trans x2).trans x3
  refine cw_seq (cw_region rfl ?_)
  refine cw_seq (cw_region rfl ?_)
  conv => whnf
  refine ⟨_, y1.rd (o := 3) rfl, ?_⟩
  conv => whnf
  refine ⟨_, rfl, _, append_wk (ty := 44) (OW.nil h3) (o.more x03).r (by simp; omega), ?_⟩
  rintro v4 h4 ⟨o4, c4, f4⟩
  rw [List.nil_append] at o4
  have x4 : ExtH h3 h4 := c4.ext (fun b hb => (ob_nil hb).elim)
  have f4' : ∀ b, ob v4 b → h3.size ≤ b := fun b hb => (f4 b hb).elim (fun e => (ob_nil e).elim) (fun e => e)
  have z4 := x4.size
  replace y1 := x4.blk y1
  replace yw := x4.blk yw
  replace y3 := x4.blk y3
  have ei := i64_eq (w.n - 1) i (by omega) (by omega)
  have et : 0 + ((i : Int)).toNat * 37 = i * 37 := by omega
  obtain ⟨g, c, hve, put⟩ := o4.put kk hw hk et
  subst hve
  have hg : h3.size ≤ g := f4' g (ob_slice.2 rfl)
  refine cw_seq (cw_region rfl ?_)
  conv => whnf
  refine ⟨_, yw.rd (o := 0) rfl, ?_⟩
  conv => whnf
  refine ⟨wkC w, by rw [wkC_length hk]; rfl, yw.all, ?_⟩
  conv => whnf
  rw [ei]
  refine ⟨⟨by omega, by omega⟩, ?_⟩
  conv => whnf
  refine put _ (fun h5 o5 c5 => ?_)
  have z5 := c5.size
  replace y1 := c5.blk y1 (by omega)
  replace y3 := c5.blk y3 (by omega)
  refine cw_seq (cw_region rfl ?_)
  conv => whnf
  refine ⟨_, _, y1, by show 3 < 4; decide, ?_⟩
  intro h6 w6
  have z6 := w6.size
  replace w6 := w6.cast (l' := refC wk sl id (.slice (some ⟨g, 0, none⟩) ws.length c)) (by rfl)
  replace y3 := w6.blk y3 (by omega)
  refine cw_seq (cw_region rfl ?_)
  conv => whnf
  refine ⟨refC wk sl id (.slice (some ⟨g, 0, none⟩) ws.length c), rfl, w6.new.all, ?_⟩
  conv => whnf
  refine ⟨_, _, y3, ⟨by show 4 ≤ 4; decide, rfl, by simp [refC, Value.oneCell']⟩, ?_⟩
  intro h7 w7
  have z7 := w7.size
  replace w7 := w7.cast (l' := refC wk sl id (.slice (some ⟨g, 0, none⟩) ws.length c)) (by rfl)
  refine cw_ret ?_
  conv => whnf
  refine ⟨_, rfl, w7.new.all, _, rfl, ?_, ⟨by omega, fun b hb => ?_⟩, fun b hb => ?_⟩
  · exact OwnS.keep (OwnS.keep o5 w6.chg (fun b hb e => by rw [ob_slice] at hb; omega)) w7.chg (fun b hb e => by rw [ob_slice] at hb; omega)
  · rw [w7.block b (by omega), w6.block b (by omega), c5.block b (by omega) (by omega), x4.block b (by omega), x03.block b hb]
  · rw [ob_slice] at hb
    omega
end Go.Proofs.Ytcmjgkjnnmfijaa
