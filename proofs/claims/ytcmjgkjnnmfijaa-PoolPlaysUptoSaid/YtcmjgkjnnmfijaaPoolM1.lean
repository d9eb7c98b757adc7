/-
  Package pool's New, Hello, Send, Done, Drain, Poison, Kill, Look.
-/
import Derived.Test.YtcmjgkjnnmfijaaPoolAt
namespace Go.Proofs.Ytcmjgkjnnmfijaa
open Go Vm
set_option maxRecDepth 100000
set_option linter.unusedVariables false
/-- may these be a pool's limits? -/
def okLim (wk sl id : Int) : Prop := 1 ≤ wk ∧ wk ≤ 64 ∧ 1 ≤ sl ∧ sl ≤ 64 ∧ 1 ≤ id ∧ id ≤ 2147483647
instance (wk sl id : Int) : Decidable (okLim wk sl id) := by unfold okLim; infer_instance
theorem new_yes (wk sl id : Int) (hl : okLim wk sl id) (h : Heap) :
    Fx Try.prog 18 #[.int .i64 wk, .int .i64 sl, .int .i64 id] h fun u h' => u = .tuple #[.pointer (some ⟨h.size, 0, none⟩), .int .i64 0] ∧ PoolAt h' h.size (.slice none 0 0) wk sl id [] ∧ ExtH h h' := by
  obtain ⟨l1, l2, l3, l4, l5, l6⟩ := hl
  refine fn_of 35 Try.func18 rfl (by kernel_rfl) rfl (by simp) ?_
  refine cw_seq (cw_region rfl ?_)
  refine cw_seq (cw_seq (cw_region rfl ?_))
  refine ops_q rfl rfl (fun k hk => hk) ?_
  refine ops_q (v := .bool false) rfl rfl (fun k hk => say false (decide_eq_false (by omega)) hk) ?_
  refine ops_q rfl rfl (fun k hk => hk) ?_
  refine ops_g (b := false) rfl rfl rfl rfl (fun k hk => hk) ?_
  refine ops_g (v := .bool false) (b := false) rfl rfl rfl rfl (fun k hk => say false (decide_eq_false (by omega)) hk) ?_
  refine ops_q rfl rfl (fun k hk => hk) ?_
  refine ops_q rfl rfl (fun k hk => hk) ?_
  refine ops_g (b := false) rfl rfl rfl rfl (fun k hk => hk) ?_
  refine ops_g (v := .bool false) (b := false) rfl rfl rfl rfl (fun k hk => say false (decide_eq_false (by omega)) hk) ?_
  refine ops_q rfl rfl (fun k hk => hk) ?_
  refine ops_q rfl rfl (fun k hk => hk) ?_
  refine ops_g (b := false) rfl rfl rfl rfl (fun k hk => hk) ?_
  refine ops_g (v := .bool false) (b := false) rfl rfl rfl rfl (fun k hk => say false (decide_eq_false (by omega)) hk) ?_
  refine ops_q rfl rfl (fun k hk => hk) ?_
  refine ops_q rfl rfl (fun k hk => hk) ?_
  refine ops_g (b := false) rfl rfl rfl rfl (fun k hk => hk) ?_
  refine ops_g (v := .bool false) (b := false) rfl rfl rfl rfl (fun k hk => say false (decide_eq_false (by omega)) hk) ?_
  refine ops_q rfl rfl (fun k hk => hk) ?_
  refine ops_q rfl rfl (fun k hk => hk) ?_
  refine ops_g (b := false) rfl rfl rfl rfl (fun k hk => hk) ?_
  refine ops_g (v := .bool false) (b := false) rfl rfl rfl rfl (fun k hk => say false (decide_eq_false (by omega)) hk) ?_
  conv => whnf
  refine cw_false rfl (cw_skip ?_)
  refine cw_seq (cw_region rfl ?_)
  conv => whnf
  refine ⟨_, rfl, #[.int .i64 wk, .int .i64 sl, .int .i64 id, .slice none 0 0], fun w => by kernel_rfl, ?_⟩
  conv => whnf
  intro h1 n1
  refine cw_ret ⟨rfl, ⟨n1.blk, OwnS.nil h1 _ _, fun w hw => by cases hw⟩, n1.ext⟩
theorem new_no (wk sl id : Int) (hl : ¬ okLim wk sl id) (h : Heap) :
    Fx Try.prog 18 #[.int .i64 wk, .int .i64 sl, .int .i64 id] h fun u h' => u = .tuple #[.pointer none, .int .i64 1] ∧ h' = h := by
  unfold okLim at hl
  refine fn_of 35 Try.func18 rfl (by kernel_rfl) rfl (by simp) ?_
  refine cw_seq (cw_region rfl ?_)
  refine cw_seq (cw_seq (cw_region rfl ?_))
  refine ops_q rfl rfl (fun k hk => hk) ?_
  by_cases l1 : wk < 1
  · refine ops_q (v := .bool true) rfl rfl (fun k hk => say true (decide_eq_true l1) hk) ?_
    conv => whnf
    refine cw_true rfl (cw_seq (cw_region rfl ?_))
    exact cw_ret ⟨rfl, rfl⟩
  refine ops_q (v := .bool false) rfl rfl (fun k hk => say false (decide_eq_false l1) hk) ?_
  refine ops_q rfl rfl (fun k hk => hk) ?_
  refine ops_g (b := false) rfl rfl rfl rfl (fun k hk => hk) ?_
  by_cases l2 : 64 < wk
  · refine ops_g (v := .bool true) (b := false) rfl rfl rfl rfl (fun k hk => say true (decide_eq_true l2) hk) ?_
    conv => whnf
    refine cw_true rfl (cw_seq (cw_region rfl ?_))
    exact cw_ret ⟨rfl, rfl⟩
  refine ops_g (v := .bool false) (b := false) rfl rfl rfl rfl (fun k hk => say false (decide_eq_false l2) hk) ?_
  refine ops_q rfl rfl (fun k hk => hk) ?_
  refine ops_q rfl rfl (fun k hk => hk) ?_
  refine ops_g (b := false) rfl rfl rfl rfl (fun k hk => hk) ?_
  by_cases l3 : sl < 1
  · refine ops_g (v := .bool true) (b := false) rfl rfl rfl rfl (fun k hk => say true (decide_eq_true l3) hk) ?_
    conv => whnf
    refine cw_true rfl (cw_seq (cw_region rfl ?_))
    exact cw_ret ⟨rfl, rfl⟩
  refine ops_g (v := .bool false) (b := false) rfl rfl rfl rfl (fun k hk => say false (decide_eq_false l3) hk) ?_
  refine ops_q rfl rfl (fun k hk => hk) ?_
  refine ops_q rfl rfl (fun k hk => hk) ?_
  refine ops_g (b := false) rfl rfl rfl rfl (fun k hk => hk) ?_
  by_cases l4 : 64 < sl
  · refine ops_g (v := .bool true) (b := false) rfl rfl rfl rfl (fun k hk => say true (decide_eq_true l4) hk) ?_
    conv => whnf
    refine cw_true rfl (cw_seq (cw_region rfl ?_))
    exact cw_ret ⟨rfl, rfl⟩
  refine ops_g (v := .bool false) (b := false) rfl rfl rfl rfl (fun k hk => say false (decide_eq_false l4) hk) ?_
  refine ops_q rfl rfl (fun k hk => hk) ?_
  refine ops_q rfl rfl (fun k hk => hk) ?_
  refine ops_g (b := false) rfl rfl rfl rfl (fun k hk => hk) ?_
  by_cases l5 : id < 1
  · refine ops_g (v := .bool true) (b := false) rfl rfl rfl rfl (fun k hk => say true (decide_eq_true l5) hk) ?_
    conv => whnf
    refine cw_true rfl (cw_seq (cw_region rfl ?_))
    exact cw_ret ⟨rfl, rfl⟩
  refine ops_g (v := .bool false) (b := false) rfl rfl rfl rfl (fun k hk => say false (decide_eq_false l5) hk) ?_
  refine ops_q rfl rfl (fun k hk => hk) ?_
  refine ops_q rfl rfl (fun k hk => hk) ?_
  refine ops_g (b := false) rfl rfl rfl rfl (fun k hk => hk) ?_
  refine ops_g (v := .bool true) (b := false) rfl rfl rfl rfl (fun k hk => say true (decide_eq_true (by omega)) hk) ?_
  conv => whnf
  refine cw_true rfl (cw_seq (cw_region rfl ?_))
  exact cw_ret ⟨rfl, rfl⟩
/-- what is so of every pool behind every call -/
structure Inv (wk sl id : Int) (ws : List Wk) : Prop where
  lim : okLim wk sl id
  num : ∀ (i : Nat) (w : Wk), ws[i]? = some w → w.n = (i : Int) + 1
  st : ∀ w ∈ ws, 1 ≤ w.st ∧ w.st ≤ 6
  sl : ∀ w ∈ ws, 1 ≤ w.sl ∧ w.sl ≤ sl
  busy : ∀ w ∈ ws, w.st = 3 ∨ w.st = 4 → 1 ≤ w.ld ∧ w.ld ≤ w.sl
  calm : ∀ w ∈ ws, ¬ (w.st = 3 ∨ w.st = 4) → w.ld = 0
  idle : ∀ w ∈ ws, 0 ≤ w.id ∧ w.id < id
  still : ∀ w ∈ ws, w.st ≠ 2 → w.id = 0
  live : (ws.countP isLive : Int) ≤ wk
def atN (ws : List Wk) (n : Int) : Wk := ws.getD (n.toNat - 1) zeroW
def upN (ws : List Wk) (n : Int) (w : Wk) : List Wk := ws.set (n.toNat - 1) w
theorem atN_eq {ws : List Wk} {n : Int} {i : Nat} {w : Wk} (hn : n = (i : Int) + 1) (hw : ws[i]? = some w) : atN ws n = w := by
  unfold atN
  rw [show n.toNat - 1 = i by omega, List.getD_eq_getElem?_getD, hw]
  rfl
theorem upN_eq {ws : List Wk} {n : Int} {i : Nat} (hn : n = (i : Int) + 1) (w : Wk) : upN ws n w = ws.set i w := by
  unfold upN
  rw [show n.toNat - 1 = i by omega]
theorem Inv.get {wk sl id : Int} {ws : List Wk} (I : Inv wk sl id ws) {i : Nat} {w : Wk} (hw : ws[i]? = some w) : 0 ≤ w.ld ∧ w.ld ≤ 64 ∧ 0 ≤ w.id ∧ w.id ≤ 2147483647 ∧ 1 ≤ w.sl ∧ w.sl ≤ 64 := by
  have hm := List.mem_of_getElem? hw
  obtain ⟨_, _, _, l4, _, l6⟩ := I.lim
  have h1 := I.sl w hm
  have h2 := I.idle w hm
  by_cases hb : w.st = 3 ∨ w.st = 4
  · have := I.busy w hm hb; omega
  · have := I.calm w hm hb; omega
def helloS (ws : List Wk) (n : Int) : List Wk × Int :=
  if findE ws n [1] = 0 then (upN ws n { atN ws n with st := 2, ld := 0, id := 0 }, 0) else (ws, findE ws n [1])
theorem hello_fn {h : Heap} {p : Nat} {v : Value} {wk sl id : Int} {ws : List Wk} (n : Int) (A : PoolAt h p v wk sl id ws) (hwk : 0 < wk) :
    Fx Try.prog 28 #[.pointer (some ⟨p, 0, none⟩), .int .i64 n] h fun u h' => u = .int .i64 (helloS ws n).2 ∧ PoolAt h' p v wk sl id (helloS ws n).1 ∧ Chg (ob v) h h' := by
  refine fn_of 19 Try.func28 rfl (by kernel_rfl) rfl (by simp) ?_
  refine cw_seq (cw_region rfl ?_)
  refine cw_seq (cw_region rfl ?_)
  conv => whnf
  refine ⟨_, rfl, #[.int .i64 1], 77, fun w => by kernel_rfl, ?_⟩
  intro h1 n1
  conv => whnf
  refine ⟨_, rfl, _, find_fn n (A.more n1.ext) hwk (RI.of_newed n1 (l := [1]) rfl rfl (by decide)), ?_⟩
  unfold helloS
  rintro u h2 ⟨x2, hu⟩
  have x02 := n1.ext.trans x2
  rcases hu with ⟨he, rfl⟩ | ⟨he, i, w, g, c, hn, hw, hst, rfl, rfl⟩
  · rw [if_neg he]
    conv => whnf
    refine cw_seq (cw_seq (cw_region rfl ?_))
    conv => whnf
    refine cw_beq_no rfl he (cw_skip ?_)
    refine cw_seq (cw_region rfl ?_)
    exact cw_ret ⟨rfl, A.more x02, x02.chg⟩
  · rw [if_pos he]
    conv => whnf
    refine cw_seq (cw_seq (cw_region rfl ?_))
    conv => whnf
    refine cw_true rfl ?_
    refine cw_region rfl ?_
    conv => whnf
    refine ⟨_, rfl, _, turn_fn 2 0 (A.more x02) hw, ?_⟩
    rintro _ h3 ⟨rfl, A3, c3⟩
    refine cw_seq (cw_region rfl ?_)
    refine cw_ret ⟨rfl, ?_, ?_⟩
    · show PoolAt h3 p _ wk sl id (upN ws n { atN ws n with st := 2, ld := 0, id := 0 })
      rw [upN_eq hn, atN_eq hn hw]
      exact A3
    · exact (x02.chg (S := fun _ => False)).trans c3 |>.mono (fun b _ e => e.elim False.elim (fun e => by rw [ob_slice]; exact e))
end Go.Proofs.Ytcmjgkjnnmfijaa
