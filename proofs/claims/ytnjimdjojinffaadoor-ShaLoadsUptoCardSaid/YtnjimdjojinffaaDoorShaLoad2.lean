/-
  The contract of package sha's Load where it takes the state.
-/
import Derived.Test.YtnjimdjojinffaaDoorShaTook
namespace Go.Proofs.YtnjimdjojinffaaDoor
open Go Vm
set_option maxRecDepth 100000
/-- a state, as it is handed over -/
def stateC (s : Sha.S8) (b : Value) (n : Nat) : List Value := [u32v s.a, u32v s.b, u32v s.c, u32v s.d, u32v s.e, u32v s.f, u32v s.g, u32v s.h, b, .int .u64 (n : Int)]
theorem load_fn {h : Heap} {s : Sha.S8} {b : Value} {l : List UInt8} {n : Nat} (hb : RB h b l) (hn : n ≤ 2305843009213693951) (hl : l.length = n % 64) :
    Fx Tryd.prog 29 #[.agg (stateC s b n).toArray] h fun u h' => ∃ q v', u = .tuple #[.pointer (some ⟨q, 0, none⟩), .int .i64 0] ∧ h.size ≤ q ∧ HashAt h' q v' s l n ∧ ExtH h h' ∧ ∀ c, ob v' c → h.size ≤ c := by
  refine fn_of 26 Tryd.func29 rfl (by kernel_rfl) rfl (by simp) ?_
  obtain ⟨a, c, e⟩ := hb.len
  refine cw_seq (cw_region rfl ?_)
  subst e
  conv => whnf
  intro h1 n1
  have y1 : Blk h1 h.size (stateC s (.slice a l.length c) n) 43 := n1.blk
  have z1 := n1.size
  refine cw_seq (cw_seq (cw_region rfl ?_))
  conv => whnf
  refine ⟨_, y1.rd (o := 9) rfl, ?_⟩
  refine ops_q (v := .bool false) rfl rfl (fun k hk => say false (decide_eq_false (by omega)) hk) ?_
  conv => whnf
  refine ⟨_, y1.rd (o := 8) rfl, ?_⟩
  conv => whnf
  refine ⟨_, y1.rd (o := 9) rfl, ?_⟩
  conv => whnf
  refine ⟨by decide, ?_⟩
  have w1 := u64_in (l.length : Int) (n % 64) (by omega) (by omega)
  refine cw_bne_no rfl (by rw [w1, Int.tmod_eq_emod_of_nonneg (by omega)]; omega) (cw_skip ?_)
  refine cw_seq ?_
  refine cw_drawn (by kernel_rfl) 10 (fun i => i == 4 || i == 8) [0, 1, 2, 3, 5, 6, 4, 7, 8, 9] (by kernel_rfl) rfl ?_
  conv => whnf
  refine ⟨s.list.map u32v, by rfl, y1.rdN 0 _ rfl, ?_⟩
  conv => whnf
  refine ⟨_, y1.rd (o := 8) rfl, ?_⟩
  conv => whnf
  refine ⟨_, y1.rd (o := 9) rfl, ?_⟩
  conv => whnf
  intro h2 x2
  refine ⟨_, rfl, _, clone_fn ((hb.more n1.ext).more x2) (by omega), ?_⟩
  rintro v' h3 ⟨o3, x3, f3⟩
  obtain ⟨a3, k3, e3⟩ := o3.r.len
  subst e3
  refine ⟨x3.toU _, ?_⟩
  intro h4 x4
  conv => whnf
  refine ⟨_, rfl, (hashC s (.slice a3 l.length k3) n).toArray, fun w => by kernel_rfl, ?_⟩
  conv => whnf
  intro h5 x5 h6 n6
  refine ⟨n6.ext.toU _, ?_⟩
  intro h7 x7
  conv => whnf
  intro h8 x8
  refine cw_ret ?_
  have z2 := x2.size; have z3 := x3.size; have z4 := x4.size; have z5 := x5.size
  have x58 := (n6.ext.trans x7).trans x8
  exact ⟨h5.size, _, rfl, by omega, ⟨x8.blk (x7.blk n6.blk), OwnS.more o3 ((x4.trans x5).trans x58)⟩, ((n1.ext.trans x2).trans (x3.trans x4)).trans (x5.trans x58), fun b hb => by have := f3 b hb; omega⟩
end Go.Proofs.YtnjimdjojinffaaDoor
