/-
  Package pool's Send, Done, Drain, Poison, Kill, Look.
-/
import Derived.Test.YtcmjgkjnnmfijaaPoolM1
namespace Go.Proofs.Ytcmjgkjnnmfijaa
open Go Vm
set_option maxRecDepth 100000
set_option linter.unusedVariables false
theorem chg_to {h1 h2 h3 : Heap} {g n c : Nat} (x : ExtH h1 h2) (k : Chg (fun b => b = g) h2 h3) : Chg (ob (.slice (some ⟨g, 0, none⟩) n c)) h1 h3 :=
  ((x.chg (S := fun _ => False)).trans k).mono (fun b _ e => e.elim False.elim (fun e => by rw [ob_slice]; exact e))
/-- a worker in memory, from its pointer -/
theorem PoolAt.worker {h : Heap} {p g c : Nat} {wk sl id : Int} {ws : List Wk} {i : Nat} {w : Wk} (A : PoolAt h p (.slice (some ⟨g, 0, none⟩) ws.length c) wk sl id ws) (hw : ws[i]? = some w) : rdN h g (i * 37) (wkC w) := by
  obtain ⟨g', c', tl, hv, hb, _⟩ := A.slot (List.getElem?_eq_some_iff.1 hw).1
  injection hv with hv1 _ hv2
  injection hv1 with hv1
  injection hv1 with hv1
  subst hv1
  exact fun k u hu => hb.rd (cellsW_at A.keys hw tl k u hu)
theorem PoolAt.ldAt {h : Heap} {p g c : Nat} {wk sl id : Int} {ws : List Wk} {i : Nat} {w : Wk} (A : PoolAt h p (.slice (some ⟨g, 0, none⟩) ws.length c) wk sl id ws) (hw : ws[i]? = some w) : rd h ⟨g, i * 37 + 35, none⟩ = some (.int .i64 w.ld) :=
  A.worker hw 35 _ (wkC_get_ld (keysOk_get A.keys hw))
theorem PoolAt.slAt {h : Heap} {p g c : Nat} {wk sl id : Int} {ws : List Wk} {i : Nat} {w : Wk} (A : PoolAt h p (.slice (some ⟨g, 0, none⟩) ws.length c) wk sl id ws) (hw : ws[i]? = some w) : rd h ⟨g, i * 37 + 2, none⟩ = some (.int .i64 w.sl) :=
  A.worker hw 2 _ rfl
def sendS (ws : List Wk) (n : Int) : List Wk × Int :=
  if findE ws n [2, 3] = 0 then (if (atN ws n).sl ≤ (atN ws n).ld then (ws, 7) else (upN ws n { atN ws n with st := 3, ld := (atN ws n).ld + 1, id := 0 }, 0)) else (ws, findE ws n [2, 3])
theorem send_fn {h : Heap} {p : Nat} {v : Value} {wk sl id : Int} {ws : List Wk} (n : Int) (A : PoolAt h p v wk sl id ws) (I : Inv wk sl id ws) :
    Fx Try.prog 14 #[.pointer (some ⟨p, 0, none⟩), .int .i64 n] h fun u h' => u = .int .i64 (sendS ws n).2 ∧ PoolAt h' p v wk sl id (sendS ws n).1 ∧ Chg (ob v) h h' := by
  have hwk : 0 < wk := by have := I.lim.1; omega
  refine fn_of 33 Try.func14 rfl (by kernel_rfl) rfl (by simp) ?_
  refine cw_seq (cw_region rfl ?_)
  refine cw_seq (cw_region rfl ?_)
  conv => whnf
  refine ⟨_, rfl, #[.int .i64 2, .int .i64 3], 77, fun w => by kernel_rfl, ?_⟩
  intro h1 n1
  conv => whnf
  refine ⟨_, rfl, _, find_fn n (A.more n1.ext) hwk (RI.of_newed n1 (l := [2, 3]) rfl rfl (by decide)), ?_⟩
  unfold sendS
  rintro u h2 ⟨x2, hu⟩
  have x02 := n1.ext.trans x2
  have A2 := A.more x02
  rcases hu with ⟨he, rfl⟩ | ⟨he, i, w, g, c, hn, hw, hst, rfl, rfl⟩
  · rw [if_neg he]
    conv => whnf
    refine cw_seq (cw_seq (cw_region rfl ?_))
    conv => whnf
    refine cw_bne_yes rfl he ?_
    refine cw_seq (cw_region rfl ?_)
    exact cw_ret ⟨rfl, A2, x02.chg⟩
  · rw [if_pos he, atN_eq hn hw]
    have hb := I.get hw
    conv => whnf
    refine cw_seq (cw_seq (cw_region rfl ?_))
    conv => whnf
    refine cw_false rfl (cw_skip ?_)
    refine cw_seq (cw_seq ?_)
    refine cw_drawn (by kernel_rfl) 8 (fun _ => false) (List.range 8) (by kernel_rfl) rfl ?_
    conv => whnf
    refine ⟨_, A2.ldAt hw, ?_⟩
    conv => whnf
    refine ⟨_, A2.slAt hw, ?_⟩
    conv => whnf
    intro h3 x3
    conv => whnf
    have A3 := A2.more x3
    by_cases hfull : w.sl ≤ w.ld
    · rw [if_pos hfull]
      refine cw_yes rfl hfull (cw_seq (cw_region rfl ?_))
      exact cw_ret ⟨rfl, A3, (x02.trans x3).chg⟩
    · rw [if_neg hfull]
      refine cw_no rfl hfull (cw_skip ?_)
      refine cw_seq (cw_region rfl ?_)
      conv => whnf
      refine ⟨_, A3.ldAt hw, ?_⟩
      conv => whnf
      obtain ⟨m, hm⟩ : ∃ m : Nat, w.ld + 1 = (m : Int) := ⟨(w.ld + 1).toNat, by omega⟩
      rw [i64_eq (w.ld + 1) m hm (by omega), ← hm]
      refine ⟨_, rfl, _, turn_fn 3 (w.ld + 1) A3 hw, ?_⟩
      rintro _ h4 ⟨rfl, A4, c4⟩
      refine cw_seq (cw_region rfl ?_)
      refine cw_ret ⟨rfl, ?_, chg_to (x02.trans x3) c4⟩
      show PoolAt h4 p _ wk sl id (upN ws n _)
      rw [upN_eq hn]
      exact A4
def drainS (ws : List Wk) (n : Int) : List Wk × Int :=
  if findE ws n [1, 2, 3] = 0 then (if (atN ws n).st = 3 then (upN ws n { atN ws n with st := 4, ld := (atN ws n).ld, id := 0 }, 0) else (upN ws n { atN ws n with st := 6, ld := 0, id := 0 }, 0)) else (ws, findE ws n [1, 2, 3])
theorem drain_fn {h : Heap} {p : Nat} {v : Value} {wk sl id : Int} {ws : List Wk} (n : Int) (A : PoolAt h p v wk sl id ws) (hwk : 0 < wk) :
    Fx Try.prog 32 #[.pointer (some ⟨p, 0, none⟩), .int .i64 n] h fun u h' => u = .int .i64 (drainS ws n).2 ∧ PoolAt h' p v wk sl id (drainS ws n).1 ∧ Chg (ob v) h h' := by
  refine fn_of 30 Try.func32 rfl (by kernel_rfl) rfl (by simp) ?_
  refine cw_seq (cw_region rfl ?_)
  refine cw_seq (cw_region rfl ?_)
  conv => whnf
  refine ⟨_, rfl, #[.int .i64 1, .int .i64 2, .int .i64 3], 77, fun w => by kernel_rfl, ?_⟩
  intro h1 n1
  conv => whnf
  refine ⟨_, rfl, _, find_fn n (A.more n1.ext) hwk (RI.of_newed n1 (l := [1, 2, 3]) rfl rfl (by decide)), ?_⟩
  unfold drainS
  rintro u h2 ⟨x2, hu⟩
  have x02 := n1.ext.trans x2
  have A2 := A.more x02
  rcases hu with ⟨he, rfl⟩ | ⟨he, i, w, g, c, hn, hw, hst, rfl, rfl⟩
  · rw [if_neg he]
    conv => whnf
    refine cw_seq (cw_seq (cw_region rfl ?_))
    conv => whnf
    refine cw_bne_yes rfl he ?_
    refine cw_seq (cw_region rfl ?_)
    exact cw_ret ⟨rfl, A2, x02.chg⟩
  · rw [if_pos he, atN_eq hn hw]
    have hk := keysOk_get A.keys hw
    conv => whnf
    refine cw_seq (cw_seq (cw_region rfl ?_))
    conv => whnf
    refine cw_false rfl (cw_skip ?_)
    refine cw_seq (cw_seq (cw_region rfl ?_))
    conv => whnf
    refine ⟨wkC w, by rw [wkC_length hk]; rfl, A2.worker hw, ?_⟩
    conv => whnf
    refine ⟨_, rfl, #[.int .i64 3], 77, fun w => by kernel_rfl, ?_⟩
    intro h3 n3
    conv => whnf
    refine ⟨_, rfl, _, is_fn w hk (RI.of_newed n3 (l := [3]) rfl rfl (by decide)), ?_⟩
    rintro _ h4 ⟨rfl, x4⟩
    have A4 := (A2.more n3.ext).more x4
    have x04 := (x02.trans n3.ext).trans x4
    by_cases h3' : w.st = 3
    · rw [if_pos h3', decide_eq_true (show w.st ∈ [3] by simp [h3'])]
      conv => whnf
      refine cw_true rfl ?_
      refine cw_region rfl ?_
      conv => whnf
      refine ⟨_, A4.ldAt hw, ?_⟩
      conv => whnf
      refine ⟨_, rfl, _, turn_fn 4 w.ld A4 hw, ?_⟩
      rintro _ h5 ⟨rfl, A5, c5⟩
      refine cw_seq (cw_region rfl ?_)
      refine cw_ret ⟨rfl, ?_, chg_to x04 c5⟩
      show PoolAt h5 p _ wk sl id (upN ws n _)
      rw [upN_eq hn]
      exact A5
    · rw [if_neg h3', decide_eq_false (show ¬ w.st ∈ [3] by simp [h3'])]
      conv => whnf
      refine cw_false rfl ?_
      refine cw_region rfl ?_
      conv => whnf
      refine ⟨_, rfl, _, turn_fn 6 0 A4 hw, ?_⟩
      rintro _ h5 ⟨rfl, A5, c5⟩
      refine cw_seq (cw_region rfl ?_)
      refine cw_ret ⟨rfl, ?_, chg_to x04 c5⟩
      show PoolAt h5 p _ wk sl id (upN ws n _)
      rw [upN_eq hn]
      exact A5
def endS (ws : List Wk) (n s : Int) (l : List Int) : List Wk × Int × Int :=
  if findE ws n l = 0 then (upN ws n { atN ws n with st := s, ld := 0, id := 0 }, (atN ws n).ld, 0) else (ws, 0, findE ws n l)
theorem end_fn {h : Heap} {p : Nat} {v sv : Value} {wk sl id : Int} {ws : List Wk} {l : List Int} (n s : Int) (A : PoolAt h p v wk sl id ws) (hwk : 0 < wk) (r : RI h sv l) :
    Fx Try.prog 56 #[.pointer (some ⟨p, 0, none⟩), .int .i64 n, .int .i64 s, sv] h fun u h' => u = .tuple #[.int .i64 (endS ws n s l).2.1, .int .i64 (endS ws n s l).2.2] ∧ PoolAt h' p v wk sl id (endS ws n s l).1 ∧ Chg (ob v) h h' := by
  refine fn_of 31 Try.func56 rfl (by kernel_rfl) rfl (by simp) ?_
  refine cw_seq (cw_region rfl ?_)
  refine cw_seq (cw_region rfl ?_)
  conv => whnf
  refine ⟨_, rfl, _, find_fn n A hwk r, ?_⟩
  unfold endS
  rintro u h2 ⟨x2, hu⟩
  have A2 := A.more x2
  rcases hu with ⟨he, rfl⟩ | ⟨he, i, w, g, c, hn, hw, hst, rfl, rfl⟩
  · rw [if_neg he]
    conv => whnf
    refine cw_seq (cw_seq (cw_region rfl ?_))
    conv => whnf
    refine cw_bne_yes rfl he ?_
    refine cw_seq (cw_region rfl ?_)
    exact cw_ret ⟨rfl, A2, x2.chg⟩
  · rw [if_pos he, atN_eq hn hw]
    conv => whnf
    refine cw_seq (cw_seq (cw_region rfl ?_))
    conv => whnf
    refine cw_false rfl (cw_skip ?_)
    refine cw_seq (cw_region rfl ?_)
    conv => whnf
    refine ⟨_, A2.ldAt hw, ?_⟩
    conv => whnf
    refine cw_seq (cw_region rfl ?_)
    conv => whnf
    refine ⟨_, rfl, _, turn_fn s 0 A2 hw, ?_⟩
    rintro _ h5 ⟨rfl, A5, c5⟩
    refine cw_seq (cw_region rfl ?_)
    refine cw_ret ⟨rfl, ?_, chg_to x2 c5⟩
    show PoolAt h5 p _ wk sl id (upN ws n _)
    rw [upN_eq hn]
    exact A5
theorem poison_fn {h : Heap} {p : Nat} {v : Value} {wk sl id : Int} {ws : List Wk} (n : Int) (A : PoolAt h p v wk sl id ws) (hwk : 0 < wk) :
    Fx Try.prog 33 #[.pointer (some ⟨p, 0, none⟩), .int .i64 n] h fun u h' => u = .tuple #[.int .i64 (endS ws n 5 [1, 2, 3, 4]).2.1, .int .i64 (endS ws n 5 [1, 2, 3, 4]).2.2] ∧ PoolAt h' p v wk sl id (endS ws n 5 [1, 2, 3, 4]).1 ∧ Chg (ob v) h h' := by
  refine fn_of 12 Try.func33 rfl (by kernel_rfl) rfl (by simp) ?_
  refine cw_seq (cw_region rfl ?_)
  refine cw_seq (cw_region rfl ?_)
  conv => whnf
  refine ⟨_, rfl, #[.int .i64 1, .int .i64 2, .int .i64 3, .int .i64 4], 77, fun w => by kernel_rfl, ?_⟩
  intro h1 n1
  conv => whnf
  refine ⟨_, rfl, _, end_fn n 5 (A.more n1.ext) hwk (RI.of_newed n1 (l := [1, 2, 3, 4]) rfl rfl (by decide)), ?_⟩
  rintro _ h2 ⟨rfl, A2, c2⟩
  exact cw_ret ⟨rfl, A2, ((n1.ext.chg (S := fun _ => False)).trans c2).mono (fun b _ e => e.elim False.elim (fun e => e))⟩
theorem kill_fn {h : Heap} {p : Nat} {v : Value} {wk sl id : Int} {ws : List Wk} (n : Int) (A : PoolAt h p v wk sl id ws) (hwk : 0 < wk) :
    Fx Try.prog 34 #[.pointer (some ⟨p, 0, none⟩), .int .i64 n] h fun u h' => u = .tuple #[.int .i64 (endS ws n 6 [1, 2, 3, 4, 5]).2.1, .int .i64 (endS ws n 6 [1, 2, 3, 4, 5]).2.2] ∧ PoolAt h' p v wk sl id (endS ws n 6 [1, 2, 3, 4, 5]).1 ∧ Chg (ob v) h h' := by
  refine fn_of 12 Try.func34 rfl (by kernel_rfl) rfl (by simp) ?_
  refine cw_seq (cw_region rfl ?_)
  refine cw_seq (cw_region rfl ?_)
  conv => whnf
  refine ⟨_, rfl, #[.int .i64 1, .int .i64 2, .int .i64 3, .int .i64 4, .int .i64 5], 77, fun w => by kernel_rfl, ?_⟩
  intro h1 n1
  conv => whnf
  refine ⟨_, rfl, _, end_fn n 6 (A.more n1.ext) hwk (RI.of_newed n1 (l := [1, 2, 3, 4, 5]) rfl rfl (by decide)), ?_⟩
  rintro _ h2 ⟨rfl, A2, c2⟩
  exact cw_ret ⟨rfl, A2, ((n1.ext.chg (S := fun _ => False)).trans c2).mono (fun b _ e => e.elim False.elim (fun e => e))⟩
def lookS (ws : List Wk) (n : Int) : Wk × Int :=
  if findE ws n [1, 2, 3, 4, 5, 6] = 0 then (atN ws n, 0) else (zeroW, findE ws n [1, 2, 3, 4, 5, 6])
theorem look_fn {h : Heap} {p : Nat} {v : Value} {wk sl id : Int} {ws : List Wk} (n : Int) (A : PoolAt h p v wk sl id ws) (hwk : 0 < wk) :
    Fx Try.prog 12 #[.pointer (some ⟨p, 0, none⟩), .int .i64 n] h fun u h' => u = .tuple #[.agg (wkC (lookS ws n).1).toArray, .int .i64 (lookS ws n).2] ∧ ExtH h h' := by
  refine fn_of 22 Try.func12 rfl (by kernel_rfl) rfl (by simp) ?_
  refine cw_seq (cw_region rfl ?_)
  conv => whnf
  intro h0 n0
  have z0 := n0.size
  have y0 : Blk h0 h.size (wkC zeroW) 31 := n0.blk
  have x0 := n0.ext
  clear n0
  refine cw_seq (cw_region rfl ?_)
  conv => whnf
  refine ⟨_, rfl, #[.int .i64 1, .int .i64 2, .int .i64 3, .int .i64 4, .int .i64 5, .int .i64 6], 77, fun w => by kernel_rfl, ?_⟩
  intro h1 n1
  conv => whnf
  refine ⟨_, rfl, _, find_fn n ((A.more x0).more n1.ext) hwk (RI.of_newed n1 (l := [1, 2, 3, 4, 5, 6]) rfl rfl (by decide)), ?_⟩
  unfold lookS
  rintro u h2 ⟨x2, hu⟩
  have x12 := n1.ext.trans x2
  have A2 := (A.more x0).more x12
  have z2 := x12.size
  rcases hu with ⟨he, rfl⟩ | ⟨he, i, w, g, c, hn, hw, hst, rfl, rfl⟩
  · rw [if_neg he]
    conv => whnf
    refine cw_seq (cw_seq (cw_region rfl ?_))
    conv => whnf
    refine cw_bne_yes rfl he ?_
    refine cw_seq (cw_region rfl ?_)
    conv => whnf
    refine ⟨_, rfl, (wkC zeroW).toArray, fun w => by kernel_rfl, ?_⟩
    conv => whnf
    refine ⟨_, _, x12.blk y0, ⟨(show (37 : Nat) ≤ 37 by decide), by rfl, wkC_one zeroW⟩, ?_⟩
    intro h3 w3
    replace w3 := w3.cast (l' := wkC zeroW) (by rfl)
    have z3 := w3.size
    refine cw_ret ?_
    conv => whnf
    exact ⟨_, by rfl, w3.new.all, rfl, ⟨by omega, fun b hb => by rw [w3.block b (by omega), x12.block b (by omega), x0.block b hb]⟩⟩
  · rw [if_pos he, atN_eq hn hw]
    have hk := keysOk_get A.keys hw
    conv => whnf
    refine cw_seq (cw_seq (cw_region rfl ?_))
    conv => whnf
    refine cw_false rfl (cw_skip ?_)
    refine cw_seq (cw_region rfl ?_)
    conv => whnf
    refine ⟨wkC w, by rw [wkC_length hk]; rfl, A2.worker hw, ?_⟩
    conv => whnf
    refine ⟨_, _, x12.blk y0, ⟨by show 0 + (wkC w).length ≤ 37; rw [wkC_length hk]; omega, by show (wkC w).length = _; rw [wkC_length hk]; rfl, wkC_one w⟩, ?_⟩
    intro h3 w3
    replace w3 := w3.cast (l' := wkC w) (by simp [splice, wkC, zeroW]; omega)
    have z3 := w3.size
    refine cw_ret ?_
    conv => whnf
    exact ⟨_, by rw [wkC_length hk]; rfl, w3.new.all, rfl, ⟨by omega, fun b hb => by rw [w3.block b (by omega), x12.block b (by omega), x0.block b hb]⟩⟩
end Go.Proofs.Ytcmjgkjnnmfijaa
