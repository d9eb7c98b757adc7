/-
  The contracts of package sha's methods on a nil hash, and on a plain one.
-/
import Derived.Test.YtnjimdjojinffaaDoorShaState
namespace Go.Proofs.YtnjimdjojinffaaDoor
open Go Vm
set_option maxRecDepth 100000
set_option linter.unusedVariables false
def zeroS : Sha.S8 := ⟨0, 0, 0, 0, 0, 0, 0, 0⟩
def hashZ : List Value := [.bool false, u32v 0, u32v 0, u32v 0, u32v 0, u32v 0, u32v 0, u32v 0, u32v 0, .slice none 0 0, .int .u64 0]
theorem reset_nil (h : Heap) : Fx Tryd.prog 21 #[.pointer none] h fun u h' => u = .tuple #[] ∧ h' = h := by
  refine fn_of 8 Tryd.func21 rfl (by kernel_rfl) rfl (by simp) ?_
  refine cw_seq (cw_region rfl ?_)
  conv => whnf
  refine ⟨.bool false, fun w => by kernel_rfl, ?_⟩
  refine cw_false rfl (cw_skip ?_)
  exact ⟨rfl, rfl⟩
theorem write_nil (x : Value) (h : Heap) : Fx Tryd.prog 22 #[.pointer none, x] h fun u h' => u = .int .i64 2 ∧ h' = h := by
  refine fn_of 46 Tryd.func22 rfl (by kernel_rfl) rfl (by simp) ?_
  refine cw_seq (cw_region rfl ?_)
  refine cw_seq (cw_seq (cw_region rfl ?_))
  conv => whnf
  refine ⟨.bool true, fun w => by kernel_rfl, ?_⟩
  refine cw_true rfl (cw_seq (cw_region rfl ?_))
  exact cw_ret ⟨rfl, rfl⟩
theorem sum_nil (h : Heap) : Fx Tryd.prog 23 #[.pointer none] h fun u h' => u = .agg ((List.replicate 32 (0 : UInt8)).map u8v).toArray ∧ ExtH h h' := by
  refine fn_of 61 Tryd.func23 rfl (by kernel_rfl) rfl (by simp) ?_
  refine cw_seq (cw_region rfl ?_)
  conv => whnf
  intro h1 n1
  refine cw_seq (cw_region rfl ?_)
  conv => whnf
  intro h2 n2
  have z1 := n1.size; have z2 := n2.size
  have y1 : Blk h1 h.size (List.replicate 32 (u8v 0)) 31 := n1.blk
  have y2 : Blk h2 h1.size (List.replicate 32 (u8v 0)) 31 := n2.blk
  refine cw_seq (cw_seq (cw_region rfl ?_))
  conv => whnf
  refine ⟨.bool true, fun w => by kernel_rfl, ?_⟩
  refine cw_true rfl (cw_seq (cw_region rfl ?_))
  conv => whnf
  refine ⟨_, by rfl, y2.all, ?_⟩
  conv => whnf
  refine ⟨_, _, n2.ext.blk y1, ⟨(show (32 : Nat) ≤ 32 by decide), by rfl, by simp [u8v, Value.oneCell']⟩, ?_⟩
  intro h3 w3
  replace w3 := w3.cast (l' := List.replicate 32 (u8v 0)) (by simp [splice])
  have z3 := w3.size
  refine cw_ret ?_
  conv => whnf
  exact ⟨_, by rfl, w3.new.all, rfl, ⟨by omega, fun b hb => by rw [w3.block b (by omega), n2.block b (by omega), n1.block b hb]⟩⟩
theorem len_nil (h : Heap) : Fx Tryd.prog 24 #[.pointer none] h fun u h' => u = .int .u64 0 ∧ h' = h := by
  refine fn_of 9 Tryd.func24 rfl (by kernel_rfl) rfl (by simp) ?_
  refine cw_seq (cw_region rfl ?_)
  refine cw_seq (cw_seq (cw_region rfl ?_))
  conv => whnf
  refine ⟨.bool true, fun w => by kernel_rfl, ?_⟩
  refine cw_true rfl (cw_seq (cw_region rfl ?_))
  exact cw_ret ⟨rfl, rfl⟩
theorem clone_nil (h : Heap) : Fx Tryd.prog 25 #[.pointer none] h fun u h' => u = .pointer none ∧ h' = h := by
  refine fn_of 22 Tryd.func25 rfl (by kernel_rfl) rfl (by simp) ?_
  refine cw_seq (cw_region rfl ?_)
  refine cw_seq (cw_seq (cw_region rfl ?_))
  conv => whnf
  refine ⟨.bool true, fun w => by kernel_rfl, ?_⟩
  refine cw_true rfl (cw_seq (cw_region rfl ?_))
  exact cw_ret ⟨rfl, rfl⟩
theorem state_nil (h : Heap) : Fx Tryd.prog 27 #[.pointer none] h fun u h' => u = .agg (stateC zeroS (.slice none 0 0) 0).toArray ∧ ExtH h h' := by
  refine fn_of 22 Tryd.func27 rfl (by kernel_rfl) rfl (by simp) ?_
  refine cw_seq (cw_region rfl ?_)
  conv => whnf
  intro h1 n1
  have z1 := n1.size
  have y1 : Blk h1 h.size (stateC zeroS (.slice none 0 0) 0) 43 := n1.blk
  refine cw_seq (cw_seq (cw_region rfl ?_))
  conv => whnf
  refine ⟨.bool true, fun w => by kernel_rfl, ?_⟩
  refine cw_true rfl (cw_seq (cw_region rfl ?_))
  conv => whnf
  refine ⟨_, rfl, (stateC zeroS (.slice none 0 0) 0).toArray, fun w => by kernel_rfl, ?_⟩
  conv => whnf
  refine ⟨_, _, y1, ⟨(show (10 : Nat) ≤ 10 by decide), by rfl, by simp [stateC, u32v, Value.oneCell']⟩, ?_⟩
  intro h2 w2
  replace w2 := w2.cast (l' := stateC zeroS (.slice none 0 0) 0) (by rfl)
  have z2 := w2.size
  refine cw_ret ?_
  conv => whnf
  exact ⟨_, by rfl, w2.new.all, rfl, ⟨by omega, fun b hb => by rw [w2.block b (by omega), n1.block b hb]⟩⟩
/-! ### a plain one -/
theorem ready_plain {h : Heap} {p : Nat} (hb : Blk h p hashZ 60) : Fx Tryd.prog 48 #[.pointer (some ⟨p, 0, none⟩)] h fun u h' => u = .tuple #[] ∧ HashAt h' p (.slice none 0 0) Sha.H0 [] 0 ∧ Chg (fun b => b = p) h h' := by
  refine fn_of 14 Tryd.func48 rfl (by kernel_rfl) rfl (by simp) ?_
  refine cw_seq (cw_region rfl ?_)
  conv => whnf
  refine ⟨_, hb.rd (o := 0) rfl, ?_⟩
  refine cw_true rfl (cw_region rfl ?_)
  conv => whnf
  refine ⟨_, rfl, _, beginning_fn h, ?_⟩
  rintro _ h1 ⟨rfl, x1⟩
  have z1 := x1.size
  conv => whnf
  refine ⟨_, _, x1.blk hb, (show (0 : Nat) < 11 by decide), ?_⟩
  intro h2 w2
  have z2 := w2.size
  conv => whnf
  refine ⟨_, _, w2.new, ⟨(show (9 : Nat) ≤ 11 by decide), by rfl, by simp [u32v, Value.oneCell', Sha.S8.list]⟩, ?_⟩
  intro h3 w3
  replace w3 := w3.cast (l' := hashC Sha.H0 (.slice none 0 0) 0) (by rfl)
  have z3 := w3.size
  refine ⟨rfl, ⟨w3.new, OB.nil h3⟩, ⟨by omega, fun b hb' hn => by rw [w3.block b hn, w2.block b hn, x1.block b hb']⟩⟩
theorem state_plain {h : Heap} {p : Nat} (hb : Blk h p hashZ 60) :
    Fx Tryd.prog 27 #[.pointer (some ⟨p, 0, none⟩)] h fun u h' => ∃ v', u = .agg (stateC Sha.H0 v' 0).toArray ∧ OB h' v' [] ∧ HashAt h' p (.slice none 0 0) Sha.H0 [] 0 ∧ Chg (fun b => b = p) h h' := by
  refine fn_of 22 Tryd.func27 rfl (by kernel_rfl) rfl (by simp) ?_
  refine cw_seq (cw_region rfl ?_)
  conv => whnf
  intro h0 n0
  refine cw_seq (cw_seq (cw_region rfl ?_))
  conv => whnf
  refine ⟨.bool false, fun w => by kernel_rfl, ?_⟩
  refine cw_false rfl (cw_skip ?_)
  have z0 := n0.size
  have y0' : Blk h0 h.size (stateC ⟨0, 0, 0, 0, 0, 0, 0, 0⟩ (.slice none 0 0) 0) 43 := n0.blk
  have lp := hb.lt
  refine cw_seq (cw_region rfl ?_)
  conv => whnf
  refine ⟨_, rfl, _, ready_plain (n0.ext.blk hb), ?_⟩
  rintro _ h1 ⟨rfl, H0, c1⟩
  have z1 := c1.size
  have y0 := c1.blk y0' (by omega)
  refine cw_seq ?_
  refine cw_drawn (by kernel_rfl) 14 (fun i => i == 8) [0, 1, 2, 3, 4, 5, 6, 7, 9, 10, 11, 12, 8, 13] (by kernel_rfl) rfl ?_
  conv => whnf
  refine ⟨_, by rfl, H0.words, ?_⟩
  conv => whnf
  refine ⟨_, H0.buf, ?_⟩
  conv => whnf
  refine ⟨_, (H0.blk.rd (o := 10) rfl), ?_⟩
  conv => whnf
  intro h2 x2
  refine ⟨_, rfl, _, clone_fn (Vm.Src.more H0.own.r x2) (by simp), ?_⟩
  rintro v' h3 ⟨o3, x3, f3⟩
  obtain ⟨a3, k3, e3⟩ := o3.r.len
  subst e3
  refine ⟨x3.toU _, ?_⟩
  intro h4 x4
  conv => whnf
  refine ⟨_, rfl, (stateC Sha.H0 (.slice a3 ([] : List UInt8).length k3) 0).toArray, fun w => by kernel_rfl, ?_⟩
  conv => whnf
  intro h5 x5
  conv => whnf
  have x05 := (x2.trans x3).trans (x4.trans x5)
  refine ⟨_, _, x05.blk y0, ⟨(show (10 : Nat) ≤ 10 by decide), by rfl, by simp [stateC, u32v, Value.oneCell']⟩, ?_⟩
  intro h6 w6
  replace w6 := w6.cast (l' := stateC Sha.H0 (.slice a3 ([] : List UInt8).length k3) 0) (by rfl)
  refine cw_ret ?_
  conv => whnf
  refine ⟨_, by rfl, w6.new.all, ?_⟩
  have z2 := x2.size; have z3 := x3.size; have z4 := x4.size; have z5 := x5.size; have z6 := w6.size
  refine ⟨_, rfl, OwnS.keep (OwnS.more o3 (x4.trans x5)) w6.chg (fun b hb e => by have := f3 b hb; omega), (H0.more x05).keep w6.chg (by omega) (fun b hb => (ob_nil hb).elim),
    ⟨by omega, fun b hb hn => by rw [w6.block b (by omega), x05.block b (by omega), c1.block b (by omega) hn, n0.block b hb]⟩⟩
theorem clone_plain {h : Heap} {p : Nat} (hb : Blk h p hashZ 60) :
    Fx Tryd.prog 25 #[.pointer (some ⟨p, 0, none⟩)] h fun u h' => ∃ q v', u = .pointer (some ⟨q, 0, none⟩) ∧ h.size ≤ q ∧ HashAt h' q v' Sha.H0 [] 0 ∧ Chg (fun b => b = p) h h' ∧ ∀ b, ob v' b → h.size ≤ b := by
  refine fn_of 22 Tryd.func25 rfl (by kernel_rfl) rfl (by simp) ?_
  refine cw_seq (cw_region rfl ?_)
  refine cw_seq (cw_seq (cw_region rfl ?_))
  conv => whnf
  refine ⟨.bool false, fun w => by kernel_rfl, ?_⟩
  refine cw_false rfl (cw_skip ?_)
  refine cw_seq (cw_region rfl ?_)
  conv => whnf
  refine ⟨_, rfl, _, ready_plain hb, ?_⟩
  rintro _ h1 ⟨rfl, H, c1⟩
  have z1 := c1.size
  refine cw_seq ?_
  refine cw_drawn (by kernel_rfl) 14 (fun i => i == 8) [0, 1, 2, 3, 4, 5, 6, 7, 9, 10, 11, 12, 8, 13] (by kernel_rfl) rfl ?_
  conv => whnf
  refine ⟨_, by rfl, H.words, ?_⟩
  conv => whnf
  refine ⟨_, H.buf, ?_⟩
  conv => whnf
  refine ⟨_, (H.blk.rd (o := 10) rfl), ?_⟩
  conv => whnf
  intro h2 x2
  refine ⟨_, rfl, _, clone_fn (Vm.Src.more H.own.r x2) (by simp), ?_⟩
  rintro v' h3 ⟨o3, x3, f3⟩
  obtain ⟨a3, k3, e3⟩ := o3.r.len
  subst e3
  refine ⟨x3.toU _, ?_⟩
  intro h4 x4
  conv => whnf
  refine ⟨_, rfl, (hashC Sha.H0 (.slice a3 ([] : List UInt8).length k3) 0).toArray, fun w => by kernel_rfl, ?_⟩
  conv => whnf
  intro h5 x5
  conv => whnf
  intro h6 n6
  refine cw_ret ?_
  have z2 := x2.size; have z3 := x3.size; have z4 := x4.size; have z5 := x5.size
  have x16 := ((x2.trans x3).trans (x4.trans x5)).trans n6.ext
  exact ⟨h5.size, _, rfl, by omega, ⟨n6.blk, OwnS.more o3 ((x4.trans x5).trans n6.ext)⟩, ⟨by have := x16.size; omega, fun b hb hn => by rw [x16.block b (by omega), c1.block b hb hn]⟩, fun b hb => by have := f3 b hb; omega⟩
end Go.Proofs.YtnjimdjojinffaaDoor
