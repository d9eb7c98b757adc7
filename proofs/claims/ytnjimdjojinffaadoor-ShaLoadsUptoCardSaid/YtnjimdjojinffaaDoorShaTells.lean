/-
  The contract of the laws' tells: both hashes tell what the document's states are.
-/
import Derived.Test.YtnjimdjojinffaaDoorShaCalls
namespace Go.Proofs.YtnjimdjojinffaaDoor
open Go Vm
set_option maxRecDepth 100000
set_option linter.unusedVariables false
theorem pair_stn (f : Nat → HI) (i j : Nat) (h : j < 2) : (pairC f i)[2 + j * 10 + 9]? = some (.int .u64 ((f j).n : Int)) := pair_st f i j h 9 _ rfl
theorem tells_fn {base : Nat} {h : Heap} (T : Tab h) {f : Nat → HI} {i : Nat} (I : PInv base h f) :
    Fx Tryd.prog 20 #[.agg (pairC f i).toArray] h fun u h' => u = .bool true ∧ ExtH h h' := by
  refine fn_of 52 Tryd.func20 rfl (by kernel_rfl) rfl (by simp) ?_
  refine cw_seq (cw_region rfl ?_)
  conv => whnf
  intro h1 n1
  have y1' : Blk h1 h.size (pairC f i) 47 := n1.blk
  have x1 := n1.ext
  clear n1
  refine cw_seq (cw_seq (cw_region rfl ?_))
  conv => whnf
  refine cw_block ?_
  refine cw_loop (S := Nat) (fun t => [(1, .pointer (some ⟨h.size, 0, none⟩)), (3, .int .i64 (t : Int))]) (fun t h' => t ≤ 2 ∧ ExtH h h' ∧ Blk h' h.size (pairC f i) 47) (fun t => 2 - t) 0 ⟨rfl, rfl, trivial⟩ ⟨by omega, x1, y1'⟩ ?_
  clear y1' x1 h1
  rintro t h1 ⟨ht, x1, y1⟩
  refine cw_seq (cw_seq (cw_region rfl ?_))
  conv => whnf
  by_cases hlt : t < 2
  · refine cw_yes rfl (by omega) (cw_skip ?_)
    have A := (I.more x1).ok t hlt
    have T1 := T.more x1
    have hl64 : (f t).l.length < 64 := by rw [A.len]; omega
    have hA := A.max
    have rp : rd h1 ⟨h.size, 0 + 0 + ((t : Int)).toNat, none⟩ = some (.pointer (some ⟨(f t).p, 0, none⟩)) := y1.rd (by rw [show 0 + 0 + ((t : Int)).toNat = t by omega]; exact pair_ptr f i t hlt)
    have rs : ∀ o, o = 2 + t * 10 → rdN h1 h.size o (stI (f t)) := fun o ho => pair_at y1 hlt ho
    refine cw_seq (cw_block (cw_seq ?_))
    refine cw_drawn (by kernel_rfl) 43 (fun i => i == 23 || i == 28) [0, 1, 2, 3, 4, 5, 6, 7, 8, 9, 10, 11, 12, 13, 14, 15, 16, 17, 18, 19, 20, 21, 22, 24, 25, 26, 27, 23, 28, 29, 30, 31, 32, 33, 34, 35, 36, 37, 38, 39, 40, 41, 42] (by kernel_rfl) rfl ?_
    conv => whnf
    refine ⟨⟨by omega, by omega⟩, ?_⟩
    conv => whnf
    refine ⟨_, rp, ?_⟩
    conv => whnf
    refine ⟨.bool false, fun w => by kernel_rfl, ?_⟩
    conv => whnf
    refine ⟨⟨by omega, by omega⟩, ?_⟩
    conv => whnf
    refine ⟨_, rp, ?_⟩
    conv => whnf
    refine ⟨_, rfl, _, Fx.q (fun h' e => len_fn (A.hash.more e)), ?_⟩
    conv => whnf
    refine ⟨⟨by omega, by omega⟩, ?_⟩
    conv => whnf
    refine ⟨.int .u64 ((f t).n : Int), y1.rd (show (pairC f i)[0 + 2 + ((t : Int)).toNat * 10 + 9]? = _ by rw [show 0 + 2 + ((t : Int)).toNat * 10 + 9 = 2 + t * 10 + 9 by omega]; exact pair_stn f i t hlt), ?_⟩
    refine head_g (v := .bool false) (b := false) rfl rfl rfl rfl rfl rfl (fun k hk => ?_) ?_
    · show k (.bool (((f t).n : Int) != ((f t).n : Int)))
      rw [bne_self_eq_false]
      exact hk
    conv => whnf
    refine ⟨⟨by omega, by omega⟩, ?_⟩
    conv => whnf
    refine ⟨_, rp, ?_⟩
    conv => whnf
    refine ⟨⟨by omega, by omega⟩, ?_⟩
    conv => whnf
    refine ⟨stI (f t), by rfl, rs _ (show 0 + 2 + ((t : Int)).toNat * 10 = 2 + t * 10 by omega), ?_⟩
    conv => whnf
    intro h2 x2
    refine ⟨_, rfl, _, state_fn (A.hash.more x2) (by omega), ?_⟩
    rintro _ h3 ⟨v3, rfl, o3, x3, f3⟩
    refine ⟨x3.toU _, ?_⟩
    intro h4 x4
    conv => whnf
    intro h5 x5
    refine ⟨_, rfl, _, same_fn (OB.r (OwnS.more o3 (x4.trans x5))) (OB.r (OwnS.more A.own ((x2.trans x3).trans (x4.trans x5)))), ?_⟩
    rintro _ h6 ⟨rfl, x6⟩
    refine ⟨x6.toU _, ?_⟩
    intro h7 x7
    conv => whnf
    refine ⟨⟨by omega, by omega⟩, ?_⟩
    conv => whnf
    refine ⟨_, rp, ?_⟩
    conv => whnf
    refine ⟨_, rfl, _, fun h' e => sum_fn (A.hash.more e) (by omega) hA, ?_⟩
    conv => whnf
    refine ⟨⟨by omega, by omega⟩, ?_⟩
    conv => whnf
    refine ⟨stI (f t), by rfl, rs _ (show 0 + 2 + ((t : Int)).toNat * 10 = 2 + t * 10 by omega), ?_⟩
    conv => whnf
    refine ⟨_, rfl, _, fun h' e => rsum_fn (T1.more e) (OB.r (OwnS.more A.own e)) (by omega) hA, ?_⟩
    conv => whnf
    refine ⟨.bool false, fun w => dig_differ _ _ _ rfl w, ?_⟩
    conv => whnf
    intro h8 x8
    have x18 := (((x2.trans x3).trans (x4.trans x5)).trans x6).trans (x7.trans x8)
    refine cw_false rfl (cw_skip ?_)
    refine cw_region rfl ?_
    exact ⟨t + 1, ⟨rfl, slot_i64 _ _ (by omega) (by omega), trivial⟩, ⟨by omega, x1.trans x18, x18.blk y1⟩, by omega⟩
  · refine cw_no rfl (by omega) (cw_exit ?_)
    refine cw_seq (cw_region rfl ?_)
    exact cw_ret ⟨rfl, x1⟩
theorem PInv.other {base : Nat} {h h' : Heap} {f : Nat → HI} {i : Nat} (I : PInv base h f) (hi : i < 2) (c : Chg (fun k => k = (f i).p ∨ ob (f i).v k) h h') {r : Nat} {l : List Value} {t : TypeId} (y : Blk h r l t) (h1 : t ≠ 5) (h2 : t ≠ 60) : Blk h' r l t :=
  c.blk y (fun e => e.elim (fun e => blk_ne y (I.ok i hi).hash.blk h2 e) (fun e => OwnS.ne (I.ok i hi).hash.own y h1 e))
theorem PInv.low {base : Nat} {h h' : Heap} {f : Nat → HI} {i : Nat} (I : PInv base h f) (hi : i < 2) (hb : base ≤ h.size) (c : Chg (fun k => k = (f i).p ∨ ob (f i).v k) h h') : ∀ b, b < base → h'[b]? = h[b]? :=
  fun b hb' => c.block b (by omega) (fun e => e.elim (fun e => by have := (I.ok i hi).lp; omega) (fun e => by have := (I.ok i hi).lv b e; omega))
end Go.Proofs.YtnjimdjojinffaaDoor
