/-
  A pool that New did not give: a nil one, and a plain one.
-/
import Derived.Test.YtcmjgkjnnmfijaaPoolSame
namespace Go.Proofs.Ytcmjgkjnnmfijaa
open Go Vm
set_option maxRecDepth 100000
set_option linter.unusedVariables false
set_option linter.unusedSimpArgs false
def Un (h : Heap) (pv : Value) : Prop := pv = .pointer none ∨ ∃ p, pv = .pointer (some ⟨p, 0, none⟩) ∧ Blk h p [.int .i64 0, .int .i64 0, .int .i64 0, .slice none 0 0] 69
theorem Un.more {h h' : Heap} {pv : Value} (U : Un h pv) (e : ExtH h h') : Un h' pv := U.imp id (fun ⟨p, h1, h2⟩ => ⟨p, h1, e.blk h2⟩)
theorem un_made {h : Heap} {pv : Value} (U : Un h pv) : Fx Try.prog 36 #[pv] h fun u h' => u = .bool false ∧ h' = h := by
  rcases U with rfl | ⟨p, rfl, y⟩
  · exact made_nil h
  · refine fn_of 12 Try.func36 rfl (by kernel_rfl) rfl (by simp) ?_
    refine cw_seq (cw_region rfl ?_)
    refine cw_seq (cw_region rfl ?_)
    conv => whnf
    refine ⟨.bool true, fun w => by kernel_rfl, ?_⟩
    conv => whnf
    refine ⟨_, y.rd (o := 0) rfl, ?_⟩
    exact cw_ret ⟨rfl, rfl⟩
theorem un_find {h : Heap} {pv sv : Value} (n : Int) (U : Un h pv) : Fx Try.prog 30 #[pv, .int .i64 n, sv] h fun u h' => u = .tuple #[.pointer none, .int .i64 2] ∧ ExtH h h' := by
  refine fn_of 43 Try.func30 rfl (by kernel_rfl) rfl (by simp) ?_
  refine cw_seq (cw_region rfl ?_)
  refine cw_seq (cw_block (cw_seq (cw_region rfl ?_)))
  conv => whnf
  refine ⟨_, rfl, _, un_made U, ?_⟩
  rintro _ h0 ⟨rfl, e⟩
  subst h0
  conv => whnf
  refine cw_true rfl ?_
  refine cw_seq (cw_region rfl ?_)
  exact cw_ret ⟨rfl, ExtH.refl _⟩
theorem un_start {h : Heap} {pv : Value} (key : List UInt8) (slots : Int) (U : Un h pv) : Fx Try.prog 27 #[pv, .agg (key.map u8v).toArray, .int .i64 slots] h fun u h' => u = .tuple #[.int .i64 0, .int .i64 2] ∧ ExtH h h' := by
  refine fn_of 52 Try.func27 rfl (by kernel_rfl) rfl (by simp) ?_
  refine cw_seq (cw_region rfl ?_)
  conv => whnf
  intro h1 n1
  refine cw_seq (cw_block (cw_seq (cw_region rfl ?_)))
  conv => whnf
  refine ⟨_, rfl, _, un_made (U.more n1.ext), ?_⟩
  rintro _ h0 ⟨rfl, e⟩
  subst h0
  conv => whnf
  refine cw_true rfl ?_
  refine cw_seq (cw_region rfl ?_)
  exact cw_ret ⟨rfl, n1.ext⟩
theorem un_hello {h : Heap} {pv : Value} (n : Int) (U : Un h pv) : Fx Try.prog 28 #[pv, .int .i64 n] h fun u h' => u = .int .i64 2 ∧ ExtH h h' := by
  refine fn_of 19 Try.func28 rfl (by kernel_rfl) rfl (by simp) ?_
  refine cw_seq (cw_region rfl ?_)
  refine cw_seq (cw_region rfl ?_)
  conv => whnf
  refine ⟨_, rfl, #[.int .i64 1], 77, fun w => by kernel_rfl, ?_⟩
  intro h1 n1
  conv => whnf
  refine ⟨_, rfl, _, un_find n (U.more n1.ext), ?_⟩
  rintro _ h2 ⟨rfl, x2⟩
  conv => whnf
  refine cw_seq (cw_seq (cw_region rfl ?_))
  conv => whnf
  refine cw_false rfl (cw_skip ?_)
  refine cw_seq (cw_region rfl ?_)
  exact cw_ret ⟨rfl, n1.ext.trans x2⟩
theorem un_send {h : Heap} {pv : Value} (n : Int) (U : Un h pv) : Fx Try.prog 14 #[pv, .int .i64 n] h fun u h' => u = .int .i64 2 ∧ ExtH h h' := by
  refine fn_of 33 Try.func14 rfl (by kernel_rfl) rfl (by simp) ?_
  refine cw_seq (cw_region rfl ?_)
  refine cw_seq (cw_region rfl ?_)
  conv => whnf
  refine ⟨_, rfl, #[.int .i64 2, .int .i64 3], 77, fun w => by kernel_rfl, ?_⟩
  intro h1 n1
  conv => whnf
  refine ⟨_, rfl, _, un_find n (U.more n1.ext), ?_⟩
  rintro _ h2 ⟨rfl, x2⟩
  conv => whnf
  refine cw_seq (cw_seq (cw_region rfl ?_))
  conv => whnf
  refine cw_true rfl ?_
  refine cw_seq (cw_region rfl ?_)
  exact cw_ret ⟨rfl, n1.ext.trans x2⟩
theorem un_done {h : Heap} {pv : Value} (n : Int) (U : Un h pv) : Fx Try.prog 31 #[pv, .int .i64 n] h fun u h' => u = .int .i64 2 ∧ ExtH h h' := by
  refine fn_of 40 Try.func31 rfl (by kernel_rfl) rfl (by simp) ?_
  refine cw_seq (cw_region rfl ?_)
  refine cw_seq (cw_region rfl ?_)
  conv => whnf
  refine ⟨_, rfl, #[.int .i64 3, .int .i64 4], 77, fun w => by kernel_rfl, ?_⟩
  intro h1 n1
  conv => whnf
  refine ⟨_, rfl, _, un_find n (U.more n1.ext), ?_⟩
  rintro _ h2 ⟨rfl, x2⟩
  conv => whnf
  refine cw_seq (cw_seq (cw_region rfl ?_))
  conv => whnf
  refine cw_true rfl ?_
  refine cw_seq (cw_region rfl ?_)
  exact cw_ret ⟨rfl, n1.ext.trans x2⟩
theorem un_drain {h : Heap} {pv : Value} (n : Int) (U : Un h pv) : Fx Try.prog 32 #[pv, .int .i64 n] h fun u h' => u = .int .i64 2 ∧ ExtH h h' := by
  refine fn_of 30 Try.func32 rfl (by kernel_rfl) rfl (by simp) ?_
  refine cw_seq (cw_region rfl ?_)
  refine cw_seq (cw_region rfl ?_)
  conv => whnf
  refine ⟨_, rfl, #[.int .i64 1, .int .i64 2, .int .i64 3], 77, fun w => by kernel_rfl, ?_⟩
  intro h1 n1
  conv => whnf
  refine ⟨_, rfl, _, un_find n (U.more n1.ext), ?_⟩
  rintro _ h2 ⟨rfl, x2⟩
  conv => whnf
  refine cw_seq (cw_seq (cw_region rfl ?_))
  conv => whnf
  refine cw_true rfl ?_
  refine cw_seq (cw_region rfl ?_)
  exact cw_ret ⟨rfl, n1.ext.trans x2⟩
theorem un_end {h : Heap} {pv sv : Value} (n s : Int) (U : Un h pv) : Fx Try.prog 56 #[pv, .int .i64 n, .int .i64 s, sv] h fun u h' => u = .tuple #[.int .i64 0, .int .i64 2] ∧ ExtH h h' := by
  refine fn_of 31 Try.func56 rfl (by kernel_rfl) rfl (by simp) ?_
  refine cw_seq (cw_region rfl ?_)
  refine cw_seq (cw_region rfl ?_)
  conv => whnf
  refine ⟨_, rfl, _, un_find n U, ?_⟩
  rintro _ h2 ⟨rfl, x2⟩
  conv => whnf
  refine cw_seq (cw_seq (cw_region rfl ?_))
  conv => whnf
  refine cw_true rfl ?_
  refine cw_seq (cw_region rfl ?_)
  exact cw_ret ⟨rfl, x2⟩
theorem un_poison {h : Heap} {pv : Value} (n : Int) (U : Un h pv) : Fx Try.prog 33 #[pv, .int .i64 n] h fun u h' => u = .tuple #[.int .i64 0, .int .i64 2] ∧ ExtH h h' := by
  refine fn_of 12 Try.func33 rfl (by kernel_rfl) rfl (by simp) ?_
  refine cw_seq (cw_region rfl ?_)
  refine cw_seq (cw_region rfl ?_)
  conv => whnf
  refine ⟨_, rfl, #[.int .i64 1, .int .i64 2, .int .i64 3, .int .i64 4], 77, fun w => by kernel_rfl, ?_⟩
  intro h1 n1
  conv => whnf
  refine ⟨_, rfl, _, un_end n 5 (U.more n1.ext), ?_⟩
  rintro _ h2 ⟨rfl, x2⟩
  exact cw_ret ⟨rfl, n1.ext.trans x2⟩
theorem un_kill {h : Heap} {pv : Value} (n : Int) (U : Un h pv) : Fx Try.prog 34 #[pv, .int .i64 n] h fun u h' => u = .tuple #[.int .i64 0, .int .i64 2] ∧ ExtH h h' := by
  refine fn_of 12 Try.func34 rfl (by kernel_rfl) rfl (by simp) ?_
  refine cw_seq (cw_region rfl ?_)
  refine cw_seq (cw_region rfl ?_)
  conv => whnf
  refine ⟨_, rfl, #[.int .i64 1, .int .i64 2, .int .i64 3, .int .i64 4, .int .i64 5], 77, fun w => by kernel_rfl, ?_⟩
  intro h1 n1
  conv => whnf
  refine ⟨_, rfl, _, un_end n 6 (U.more n1.ext), ?_⟩
  rintro _ h2 ⟨rfl, x2⟩
  exact cw_ret ⟨rfl, n1.ext.trans x2⟩
theorem un_look {h : Heap} {pv : Value} (n : Int) (U : Un h pv) : Fx Try.prog 12 #[pv, .int .i64 n] h fun u h' => u = .tuple #[.agg (wkC zeroW).toArray, .int .i64 2] ∧ ExtH h h' := by
  refine fn_of 22 Try.func12 rfl (by kernel_rfl) rfl (by simp) ?_
  refine cw_seq (cw_region rfl ?_)
  conv => whnf
  intro h0 n0
  have z0 := n0.size
  have y0 : Blk h0 h.size (wkC zeroW) 31 := n0.blk
  have x0 := n0.ext
  clear n0
  refine cw_seq (cw_region rfl ?_)
  conv => whnf
  refine ⟨_, rfl, #[.int .i64 1, .int .i64 2, .int .i64 3, .int .i64 4, .int .i64 5, .int .i64 6], 77, fun w => by kernel_rfl, ?_⟩
  intro h1 n1
  conv => whnf
  refine ⟨_, rfl, _, un_find n ((U.more x0).more n1.ext), ?_⟩
  rintro _ h2 ⟨rfl, x2⟩
  have x12 := n1.ext.trans x2
  have z2 := x12.size
  conv => whnf
  refine cw_seq (cw_seq (cw_region rfl ?_))
  conv => whnf
  refine cw_true rfl ?_
  refine cw_seq (cw_region rfl ?_)
  conv => whnf
  refine ⟨_, rfl, (wkC zeroW).toArray, fun w => by kernel_rfl, ?_⟩
  conv => whnf
  refine store_wk (a := zeroW) (x12.blk y0) zeroW_key zeroW_key ?_
  intro h3 w3
  have z3 := w3.size
  refine cw_ret ?_
  conv => whnf
  exact ⟨_, by rfl, w3.new.all, rfl, ⟨by omega, fun b hb => by rw [w3.block b (by omega), x12.block b (by omega), x0.block b hb]⟩⟩
theorem un_tick {h : Heap} {pv : Value} (U : Un h pv) : Fx Try.prog 17 #[pv] h fun u h' => u = .slice none 0 0 ∧ ExtH h h' := by
  refine fn_of 56 Try.func17 rfl (by kernel_rfl) rfl (by simp) ?_
  refine cw_seq (cw_region rfl ?_)
  refine cw_seq (cw_seq (cw_region rfl ?_))
  conv => whnf
  refine ⟨_, rfl, _, un_made U, ?_⟩
  rintro _ h0 ⟨rfl, e⟩
  subst h0
  conv => whnf
  refine cw_true rfl ?_
  refine cw_seq (cw_region rfl ?_)
  exact cw_ret ⟨rfl, ExtH.refl _⟩
theorem un_all {h : Heap} {pv : Value} (U : Un h pv) : Fx Try.prog 15 #[pv] h fun u h' => u = .slice none 0 0 ∧ ExtH h h' := by
  refine fn_of 31 Try.func15 rfl (by kernel_rfl) rfl (by simp) ?_
  refine cw_seq (cw_region rfl ?_)
  refine cw_seq (cw_seq (cw_region rfl ?_))
  conv => whnf
  refine ⟨_, rfl, _, un_made U, ?_⟩
  rintro _ h0 ⟨rfl, e⟩
  subst h0
  conv => whnf
  refine cw_true rfl ?_
  refine cw_seq (cw_region rfl ?_)
  exact cw_ret ⟨rfl, ExtH.refl _⟩
theorem un_live {h : Heap} {pv : Value} (U : Un h pv) : Fx Try.prog 16 #[pv] h fun u h' => u = .int .i64 0 ∧ ExtH h h' := by
  refine fn_of 24 Try.func16 rfl (by kernel_rfl) rfl (by simp) ?_
  refine cw_seq (cw_region rfl ?_)
  refine cw_seq (cw_seq (cw_region rfl ?_))
  conv => whnf
  refine ⟨_, rfl, _, un_made U, ?_⟩
  rintro _ h0 ⟨rfl, e⟩
  subst h0
  conv => whnf
  refine cw_true rfl ?_
  refine cw_seq (cw_region rfl ?_)
  exact cw_ret ⟨rfl, ExtH.refl _⟩
theorem un_clone {h : Heap} {pv : Value} (U : Un h pv) : Fx Try.prog 26 #[pv] h fun u h' => u = .pointer none ∧ ExtH h h' := by
  refine fn_of 16 Try.func26 rfl (by kernel_rfl) rfl (by simp) ?_
  refine cw_seq (cw_region rfl ?_)
  refine cw_seq (cw_seq (cw_region rfl ?_))
  conv => whnf
  refine ⟨_, rfl, _, un_made U, ?_⟩
  rintro _ h0 ⟨rfl, e⟩
  subst h0
  conv => whnf
  refine cw_true rfl ?_
  refine cw_seq (cw_region rfl ?_)
  exact cw_ret ⟨rfl, ExtH.refl _⟩
theorem un_pick {h : Heap} {pv : Value} (key : List UInt8) (U : Un h pv) : Fx Try.prog 29 #[pv, .agg (key.map u8v).toArray] h fun u h' => u = .tuple #[.int .i64 0, .bool false] ∧ ExtH h h' := by
  refine fn_of 63 Try.func29 rfl (by kernel_rfl) rfl (by simp) ?_
  refine cw_seq (cw_region rfl ?_)
  conv => whnf
  intro h1 n1
  refine cw_seq (cw_seq (cw_region rfl ?_))
  conv => whnf
  refine ⟨_, rfl, _, un_made (U.more n1.ext), ?_⟩
  rintro _ h0 ⟨rfl, e⟩
  subst h0
  conv => whnf
  refine cw_true rfl ?_
  refine cw_seq (cw_region rfl ?_)
  exact cw_ret ⟨rfl, n1.ext⟩
theorem un_spare {h : Heap} {pv kv : Value} (U : Un h pv) : Fx Try.prog 21 #[pv, kv] h fun u h' => u = .tuple #[.int .i64 0, .bool false] ∧ ExtH h h' := by
  refine fn_of 50 Try.func21 rfl (by kernel_rfl) rfl (by simp) ?_
  refine cw_seq (cw_region rfl ?_)
  refine cw_seq (cw_seq (cw_region rfl ?_))
  conv => whnf
  refine ⟨_, rfl, _, un_made U, ?_⟩
  rintro _ h0 ⟨rfl, e⟩
  subst h0
  conv => whnf
  refine cw_true rfl ?_
  refine cw_seq (cw_region rfl ?_)
  exact cw_ret ⟨rfl, ExtH.refl _⟩
end Go.Proofs.Ytcmjgkjnnmfijaa
