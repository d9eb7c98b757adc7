/-
  Package sha's Load, and the document's, whatever the state.
-/
import Derived.Test.YtnjimdjojinffaaDoorShaPair
namespace Go.Proofs.YtnjimdjojinffaaDoor
open Go Vm
set_option maxRecDepth 100000
theorem load_no {h : Heap} {s : Sha.S8} {b : Value} {l : List UInt8} {n : Nat} (hb : RB h b l) (hn64 : n < 18446744073709551616) (hno : ¬ (n ≤ 2305843009213693951 ∧ l.length = n % 64)) :
    Fx Tryd.prog 29 #[.agg (stateC s b n).toArray] h fun u h' => u = .tuple #[.pointer none, .int .i64 20] ∧ ExtH h h' := by
  refine fn_of 26 Tryd.func29 rfl (by kernel_rfl) rfl (by simp) ?_
  obtain ⟨a, c, e⟩ := hb.len
  have hm := hb.max
  have hmax : maxLen < 9223372036854775808 := by decide
  refine cw_seq (cw_region rfl ?_)
  subst e
  conv => whnf
  intro h1 n1
  have y1 : Blk h1 h.size (stateC s (.slice a l.length c) n) 43 := n1.blk
  have x1 := n1.ext
  clear n1
  refine cw_seq (cw_seq (cw_region rfl ?_))
  conv => whnf
  refine ⟨_, y1.rd (o := 9) rfl, ?_⟩
  by_cases hbig : 2305843009213693951 < n
  · refine ops_q (v := .bool true) rfl rfl (fun k hk => say true (decide_eq_true (by omega)) hk) ?_
    conv => whnf
    refine cw_true rfl (cw_seq (cw_region rfl ?_))
    exact cw_ret ⟨rfl, x1⟩
  · refine ops_q (v := .bool false) rfl rfl (fun k hk => say false (decide_eq_false (by omega)) hk) ?_
    conv => whnf
    refine ⟨_, y1.rd (o := 8) rfl, ?_⟩
    conv => whnf
    refine ⟨_, y1.rd (o := 9) rfl, ?_⟩
    conv => whnf
    refine ⟨by decide, ?_⟩
    have w1 := u64_in (l.length : Int) l.length rfl (by omega)
    refine cw_bne_yes rfl (by rw [w1, Int.tmod_eq_emod_of_nonneg (by omega)]; omega) ?_
    refine cw_seq (cw_region rfl ?_)
    exact cw_ret ⟨rfl, x1⟩
def loadErr (l : List UInt8) (n : Nat) : Int := if n ≤ 2305843009213693951 ∧ l.length = n % 64 then 0 else 20
theorem rload_fn {h : Heap} {s : Sha.S8} {b : Value} {l : List UInt8} {n : Nat} (hb : RB h b l) (hn64 : n < 18446744073709551616) :
    Fx Tryd.prog 30 #[.agg (stateC s b n).toArray] h fun u h' => u = .int .i64 (loadErr l n) ∧ ExtH h h' := by
  refine fn_of 16 Tryd.func30 rfl (by kernel_rfl) rfl (by simp) ?_
  obtain ⟨a, c, e⟩ := hb.len
  have hm := hb.max
  have hmax : maxLen < 9223372036854775808 := by decide
  refine cw_seq (cw_region rfl ?_)
  subst e
  conv => whnf
  intro h1 n1
  have y1 : Blk h1 h.size (stateC s (.slice a l.length c) n) 43 := n1.blk
  have x1 := n1.ext
  clear n1
  unfold loadErr
  refine cw_seq (cw_seq (cw_region rfl ?_))
  conv => whnf
  refine ⟨_, y1.rd (o := 9) rfl, ?_⟩
  by_cases hbig : 2305843009213693951 < n
  · refine ops_q (v := .bool true) rfl rfl (fun k hk => say true (decide_eq_true (by omega)) hk) ?_
    conv => whnf
    refine cw_true rfl (cw_seq (cw_region rfl ?_))
    rw [if_neg (by omega)]
    exact cw_ret ⟨rfl, x1⟩
  · refine ops_q (v := .bool false) rfl rfl (fun k hk => say false (decide_eq_false (by omega)) hk) ?_
    conv => whnf
    refine ⟨_, y1.rd (o := 8) rfl, ?_⟩
    conv => whnf
    refine ⟨_, y1.rd (o := 9) rfl, ?_⟩
    conv => whnf
    refine ⟨by decide, ?_⟩
    have w1 := u64_in (l.length : Int) l.length rfl (by omega)
    by_cases heq : l.length = n % 64
    · refine cw_bne_no rfl (by rw [w1, Int.tmod_eq_emod_of_nonneg (by omega)]; omega) (cw_skip ?_)
      refine cw_seq (cw_region rfl ?_)
      rw [if_pos ⟨by omega, heq⟩]
      exact cw_ret ⟨rfl, x1⟩
    · refine cw_bne_yes rfl (by rw [w1, Int.tmod_eq_emod_of_nonneg (by omega)]; omega) ?_
      refine cw_seq (cw_region rfl ?_)
      rw [if_neg (fun e => heq e.2)]
      exact cw_ret ⟨rfl, x1⟩
/-- Load, whatever the state -/
theorem load_any {h : Heap} {s : Sha.S8} {b : Value} {l : List UInt8} {n : Nat} (hb : RB h b l) (hn64 : n < 18446744073709551616) :
    Fx Tryd.prog 29 #[.agg (stateC s b n).toArray] h fun u h' => ExtH h h' ∧
      ((n ≤ 2305843009213693951 ∧ l.length = n % 64) ∧ (∃ q v', u = .tuple #[.pointer (some ⟨q, 0, none⟩), .int .i64 0] ∧ h.size ≤ q ∧ HashAt h' q v' s l n ∧ ∀ c, ob v' c → h.size ≤ c) ∨
       ¬ (n ≤ 2305843009213693951 ∧ l.length = n % 64) ∧ u = .tuple #[.pointer none, .int .i64 20]) := by
  by_cases hok : n ≤ 2305843009213693951 ∧ l.length = n % 64
  · refine (load_fn hb hok.1 hok.2).mono ?_
    rintro u h' ⟨q, v', hu, hq, H, e, f⟩
    exact ⟨e, .inl ⟨hok, q, v', hu, hq, H, f⟩⟩
  · refine (load_no hb hn64 hok).mono ?_
    rintro u h' ⟨hu, e⟩
    exact ⟨e, .inr ⟨hok, hu⟩⟩
end Go.Proofs.YtnjimdjojinffaaDoor
