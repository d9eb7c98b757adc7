/-
  Package pool's Done, Live, All, Tick, Start.
-/
import Derived.Test.YtcmjgkjnnmfijaaPoolM2
import Derived.Test.YtcmjgkjnnmfijaaVmTree
namespace Go.Proofs.Ytcmjgkjnnmfijaa
open Go Vm
set_option maxRecDepth 100000
set_option linter.unusedVariables false
/-- one field of a worker is written -/
theorem PoolAt.setCell {h : Heap} {p g c : Nat} {wk sl id : Int} {ws : List Wk} {i k : Nat} {w w' : Wk} {u : Value} (A : PoolAt h p (.slice (some ⟨g, 0, none⟩) ws.length c) wk sl id ws) (hw : ws[i]? = some w) (hk : k < 37) (hs : (wkC w).set k u = wkC w') (hk' : w'.key.length = 32)
    (K : Heap → Prop) (H : ∀ h', PoolAt h' p (.slice (some ⟨g, 0, none⟩) ws.length c) wk sl id (ws.set i w') → Chg (fun b => b = g) h h' → K h') : ∃ l t, Blk h g l t ∧ i * 37 + k < l.length ∧ ∀ h', Wrote h h' g (l.set (i * 37 + k) u) t → K h' := by
  have hil := (List.getElem?_eq_some_iff.1 hw).1
  obtain ⟨g', c', tl, hv, hb, h3, h4, h5, h6⟩ := A.slot hil
  injection hv with hv1 _ hv2
  injection hv1 with hv1
  injection hv1 with hv1
  subst hv1 hv2
  refine ⟨_, _, hb, by rw [List.length_append, cellsW_length A.keys]; omega, fun h' w7 => ?_⟩
  replace w7 := w7.cast (l' := cellsW (ws.set i w') ++ tl) (cellsW_set A.keys hw tl k u hk hs)
  exact H h' (A.put rfl h3 h4 h5 (by rw [List.length_set]) (keysOk_set A.keys hk') w7 rfl) w7.chg
def doneS (ws : List Wk) (n : Int) : List Wk × Int :=
  if findE ws n [3, 4] = 0 then
    (if 1 < (atN ws n).ld then (upN ws n { atN ws n with ld := (atN ws n).ld - 1 }, 0)
     else if (atN ws n).st = 4 then (upN ws n { atN ws n with st := 6, ld := 0, id := 0 }, 0) else (upN ws n { atN ws n with st := 2, ld := 0, id := 0 }, 0))
  else (ws, findE ws n [3, 4])
theorem done_fn {h : Heap} {p : Nat} {v : Value} {wk sl id : Int} {ws : List Wk} (n : Int) (A : PoolAt h p v wk sl id ws) (I : Inv wk sl id ws) :
    Fx Try.prog 31 #[.pointer (some ⟨p, 0, none⟩), .int .i64 n] h fun u h' => u = .int .i64 (doneS ws n).2 ∧ PoolAt h' p v wk sl id (doneS ws n).1 ∧ Chg (ob v) h h' := by
  have hwk : 0 < wk := by have := I.lim.1; omega
  refine fn_of 40 Try.func31 rfl (by kernel_rfl) rfl (by simp) ?_
  refine cw_seq (cw_region rfl ?_)
  refine cw_seq (cw_region rfl ?_)
  conv => whnf
  refine ⟨_, rfl, #[.int .i64 3, .int .i64 4], 77, fun w => by kernel_rfl, ?_⟩
  intro h1 n1
  conv => whnf
  refine ⟨_, rfl, _, find_fn n (A.more n1.ext) hwk (RI.of_newed n1 (l := [3, 4]) rfl rfl (by decide)), ?_⟩
  unfold doneS
  rintro u h2 ⟨x2, hu⟩
  have x02 := n1.ext.trans x2
  have A2 := A.more x02
  rcases hu with ⟨he, rfl⟩ | ⟨he, i, w, g, c, hn, hw, hst, rfl, rfl⟩
  · rw [if_neg he]
    conv => whnf
    refine cw_seq (cw_seq (cw_region rfl ?_))
    conv => whnf
    refine cw_bne_yes rfl he ?_
    refine cw_seq (cw_region rfl ?_)
    exact cw_ret ⟨rfl, A2, x02.chg⟩
  · rw [if_pos he, atN_eq hn hw]
    have hk := keysOk_get A.keys hw
    have hil := (List.getElem?_eq_some_iff.1 hw).1
    have hb := I.get hw
    have hbusy := I.busy w (List.mem_of_getElem? hw) (by simpa using hst)
    conv => whnf
    refine cw_seq (cw_seq (cw_region rfl ?_))
    conv => whnf
    refine cw_false rfl (cw_skip ?_)
    refine cw_seq (cw_region rfl ?_)
    conv => whnf
    refine ⟨_, A2.ldAt hw, ?_⟩
    conv => whnf
    obtain ⟨m, hm⟩ : ∃ m : Nat, w.ld - 1 = (m : Int) := ⟨(w.ld - 1).toNat, by omega⟩
    rw [i64_eq (w.ld - 1) m hm (by omega), ← hm]
    refine A2.setCell hw (k := 35) (by omega) (wkC_ld hk (w.ld - 1)) hk _ (fun h3 A3 c3 => ?_)
    have hw3 : (ws.set i { w with ld := w.ld - 1 })[i]? = some { w with ld := w.ld - 1 } := by rw [List.getElem?_set_self hil]
    have A3' : PoolAt h3 p (.slice (some ⟨g, 0, none⟩) (ws.set i { w with ld := w.ld - 1 }).length c) wk sl id (ws.set i { w with ld := w.ld - 1 }) := by rw [List.length_set]; exact A3
    refine cw_seq (cw_block (cw_seq (cw_region rfl ?_)))
    conv => whnf
    refine ⟨_, A3'.ldAt hw3, ?_⟩
    conv => whnf
    by_cases hmore : 1 < w.ld
    · rw [if_pos hmore]
      refine cw_yes rfl (by show (0 : Int) < w.ld - 1; omega) (cw_skip ?_)
      refine cw_seq (cw_region rfl ?_)
      refine cw_ret ⟨rfl, ?_, chg_to x02 c3⟩
      show PoolAt h3 p _ wk sl id (upN ws n _)
      rw [upN_eq hn]
      exact A3
    · rw [if_neg hmore]
      refine cw_no rfl (by show ¬ (0 : Int) < w.ld - 1; omega) ?_
      refine cw_seq (cw_region rfl ?_)
      conv => whnf
      refine ⟨wkC { w with ld := w.ld - 1 }, (wkC_length (w := { w with ld := w.ld - 1 }) hk).trans rfl, A3'.worker hw3, ?_⟩
      conv => whnf
      refine ⟨_, rfl, #[.int .i64 4], 77, fun w => by kernel_rfl, ?_⟩
      intro h4 n4
      conv => whnf
      refine ⟨_, rfl, _, is_fn { w with ld := w.ld - 1 } hk (RI.of_newed n4 (l := [4]) rfl rfl (by decide)), ?_⟩
      rintro _ h5 ⟨rfl, x5⟩
      have x35 := n4.ext.trans x5
      have A5 := A3'.more x35
      have c5 : Chg (ob (.slice (some ⟨g, 0, none⟩) ws.length c)) h h5 := ((chg_to x02 c3).trans (x35.chg (S := fun _ => False))).mono (fun b _ e => e.elim (fun e => e) False.elim)
      by_cases h4' : w.st = 4
      · rw [if_pos h4', decide_eq_true (show (({ w with ld := w.ld - 1 } : Wk).st ∈ [(4 : Int)]) by simp [h4'])]
        conv => whnf
        refine cw_true rfl ?_
        refine cw_region rfl ?_
        conv => whnf
        refine ⟨_, rfl, _, turn_fn 6 0 A5 hw3, ?_⟩
        rintro _ h6 ⟨rfl, A6, c6⟩
        refine cw_seq (cw_region rfl ?_)
        refine cw_ret ⟨rfl, ?_, (c5.trans c6).mono (fun b _ e => e.elim (fun e => e) (fun e => by rw [ob_slice]; exact e))⟩
        show PoolAt h6 p _ wk sl id (upN ws n _)
        rw [upN_eq hn]
        rw [List.length_set, List.set_set] at A6
        exact A6
      · rw [if_neg h4', decide_eq_false (show ¬ (({ w with ld := w.ld - 1 } : Wk).st ∈ [(4 : Int)]) by simp [h4'])]
        conv => whnf
        refine cw_false rfl ?_
        refine cw_region rfl ?_
        conv => whnf
        refine ⟨_, rfl, _, turn_fn 2 0 A5 hw3, ?_⟩
        rintro _ h6 ⟨rfl, A6, c6⟩
        refine cw_seq (cw_region rfl ?_)
        refine cw_ret ⟨rfl, ?_, (c5.trans c6).mono (fun b _ e => e.elim (fun e => e) (fun e => by rw [ob_slice]; exact e))⟩
        show PoolAt h6 p _ wk sl id (upN ws n _)
        rw [upN_eq hn]
        rw [List.length_set, List.set_set] at A6
        exact A6
theorem live_fn {h : Heap} {p : Nat} {v : Value} {wk sl id : Int} {ws : List Wk} (A : PoolAt h p v wk sl id ws) (hwk : 0 < wk) :
    Fx Try.prog 16 #[.pointer (some ⟨p, 0, none⟩)] h fun u h' => u = .int .i64 (ws.countP isLive : Int) ∧ ExtH h h' := by
  refine fn_of 24 Try.func16 rfl (by kernel_rfl) rfl (by simp) ?_
  obtain ⟨va, vc, hve, hvm⟩ := A.fix
  have hmax : maxLen < 9223372036854775808 := by decide
  refine cw_seq (cw_region rfl ?_)
  refine cw_seq (cw_seq (cw_region rfl ?_))
  conv => whnf
  refine ⟨_, rfl, _, made_fn A, ?_⟩
  rw [decide_eq_true hwk]
  rintro _ h0 ⟨rfl, e⟩
  subst h0
  conv => whnf
  refine cw_false rfl (cw_skip ?_)
  refine cw_seq (cw_region rfl ?_)
  refine cw_seq (cw_seq (cw_region rfl ?_))
  conv => whnf
  refine ⟨_, A.blk.rd (o := 3) rfl, ?_⟩
  subst hve
  conv => whnf
  refine cw_block ?_
  refine cw_loop (S := Nat) (fun t => [(3, .int .i64 ((ws.take t).countP isLive : Int)), (12, .slice va ws.length vc), (13, .int .i64 (ws.length : Int)), (14, .int .i64 (t : Int))])
    (fun t h' => t ≤ ws.length ∧ ExtH h h') (fun t => ws.length - t) 0 ⟨rfl, rfl, rfl, rfl, trivial⟩ ⟨by omega, ExtH.refl _⟩ ?_
  rintro t h1 ⟨ht, x1⟩
  refine cw_seq (cw_region rfl ?_)
  by_cases hlt : t < ws.length
  · refine cw_seq (cw_yes rfl (by omega) (cw_skip ?_))
    have A1 := A.more x1
    have hw : ws[t]? = some ws[t] := List.getElem?_eq_getElem hlt
    generalize ws[t] = w at hw
    have hk := keysOk_get A.keys hw
    obtain ⟨g, c, tl, hv, hb, _⟩ := A1.slot hlt
    injection hv with hv1 _ hv2
    subst hv1 hv2
    refine cw_seq (cw_block (cw_seq (cw_region rfl ?_)))
    conv => whnf
    refine ⟨⟨by omega, by omega⟩, ?_⟩
    conv => whnf
    refine ⟨wkC w, by rw [wkC_length hk]; rfl, fun k u hu => hb.rd (by
      have := cellsW_at A.keys hw tl k u hu
      rwa [show t * 37 + k = 0 + ((t : Int)).toNat * 37 + k by omega] at this), ?_⟩
    conv => whnf
    intro h2 n2
    have y2 : Blk h2 h1.size (wkC zeroW) 31 := n2.blk
    conv => whnf
    refine ⟨_, _, y2, ⟨by show 0 + (wkC w).length ≤ 37; rw [wkC_length hk]; omega, by show (wkC w).length = _; rw [wkC_length hk]; rfl, wkC_one w⟩, ?_⟩
    intro h3 w3
    replace w3 := w3.cast (l' := wkC w) (by simp [splice, wkC, zeroW]; omega)
    refine cw_seq (cw_region rfl ?_)
    conv => whnf
    refine ⟨wkC w, by rw [wkC_length hk]; rfl, w3.new.all, ?_⟩
    conv => whnf
    refine ⟨_, rfl, _, lives_fn w hk, ?_⟩
    rintro _ h4 ⟨rfl, x4⟩
    have z1 := x1.size; have z2 := n2.size; have z3 := w3.size; have z4 := x4.size
    have x04 : ExtH h h4 := ⟨by omega, fun b hb => by rw [x4.block b (by omega), w3.block b (by omega), n2.block b (by omega), x1.block b hb]⟩
    have hcount : (ws.take (t + 1)).countP isLive = (ws.take t).countP isLive + (if isLive w then 1 else 0) := by
      rw [List.take_add_one, hw, List.countP_append]
      cases h : isLive w <;> simp [h]
    have hle : (ws.take t).countP isLive ≤ t := Nat.le_trans List.countP_le_length (by rw [List.length_take]; omega)
    cases hlv : isLive w with
    | true =>
      rw [hlv] at hcount
      refine cw_true rfl ?_
      refine cw_region rfl ?_
      conv => whnf
      refine cw_region rfl ?_
      exact ⟨t + 1, ⟨slot_i64 _ _ (by rw [hcount]; simp) (by rw [hcount, if_pos rfl]; omega), rfl, rfl, slot_i64 _ _ (by omega) (by omega), trivial⟩, ⟨by omega, x04⟩, by omega⟩
    | false =>
      rw [hlv] at hcount
      refine cw_false rfl (cw_skip ?_)
      refine cw_region rfl ?_
      exact ⟨t + 1, ⟨by show some (Value.int .i64 _) = some (Value.int .i64 _); rw [hcount]; simp, rfl, rfl, slot_i64 _ _ (by omega) (by omega), trivial⟩, ⟨by omega, x04⟩, by omega⟩
  · refine cw_seq (cw_no rfl (by omega) (cw_exit ?_))
    have tn : t = ws.length := by omega
    subst tn
    rw [List.take_length]
    refine cw_seq (cw_region rfl ?_)
    exact cw_ret ⟨rfl, x1⟩
end Go.Proofs.Ytcmjgkjnnmfijaa
