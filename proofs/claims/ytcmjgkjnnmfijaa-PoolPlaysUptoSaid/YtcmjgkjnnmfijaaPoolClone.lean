/-
  slices.Clone of workers; package pool's Clone.
-/
import Derived.Test.YtcmjgkjnnmfijaaPoolBoth
namespace Go.Proofs.Ytcmjgkjnnmfijaa
open Go Vm
set_option maxRecDepth 100000
set_option linter.unusedVariables false
set_option linter.unusedSimpArgs false
theorem build_noW (wd : World) : (Instr.buildSlice 44 0 #[]).run Try.prog wd = .ok (.slice (some ⟨wd.heap.size, 0, none⟩) 0 0) (wd.alloc (.cells #[] 31)) := by kernel_rfl
theorem sliceClone_fn {h : Heap} {v : Value} {ws : List Wk} (o : OW h v ws) (hs : ws.length ≤ 1000000000) :
    Fx Try.prog 55 #[v] h fun u h' => OW h' u ws ∧ ExtH h h' ∧ ∀ b, ob u b → h.size ≤ b := by
  refine fn_of 8 Try.func55 rfl (by kernel_rfl) rfl (by simp) ?_
  obtain ⟨a, c, hve, hvm⟩ := o.fix
  subst hve
  refine cw_seq (cw_region rfl ?_)
  cases a with
  | none =>
    refine cw_seq (cw_seq (cw_region rfl ?_))
    conv => whnf
    refine ⟨.bool true, fun w => by kernel_rfl, ?_⟩
    conv => whnf
    refine cw_true rfl ?_
    refine cw_seq (cw_region rfl ?_)
    conv => whnf
    have h0 : ws = [] := by
      rcases o.2 with ⟨_, h0⟩ | ⟨g, cap, tl, he, _⟩
      · exact List.eq_nil_of_length_eq_zero h0
      · cases he
    subst h0
    exact cw_ret ⟨OW.nil h, ExtH.refl _, fun b hb => (ob_nil hb).elim⟩
  | some A =>
    refine cw_seq (cw_seq (cw_region rfl ?_))
    conv => whnf
    refine ⟨.bool false, fun w => by kernel_rfl, ?_⟩
    conv => whnf
    refine cw_false rfl (cw_skip ?_)
    refine cw_seq (cw_region rfl ?_)
    conv => whnf
    refine ⟨_, rfl, #[], 31, fun w => build_noW w, ?_⟩
    intro h1 n1
    conv => whnf
    have o0 : OW h1 (.slice (some ⟨h.size, 0, none⟩) 0 0) [] := ⟨rfl, .inr ⟨h.size, 0, [], rfl, n1.blk, by decide, by decide, rfl⟩⟩
    refine ⟨_, rfl, _, append_wk (ty := 44) o0 (o.more n1.ext).r (by show 0 + ws.length ≤ _; omega), ?_⟩
    rintro u h2 ⟨o2, c2, f2⟩
    have z1 := n1.size
    refine cw_ret ⟨o2, ⟨by have := c2.size; omega, fun b hb => by rw [c2.block b (by omega) (fun e => by rw [ob_slice] at e; omega), n1.block b hb]⟩, fun b hb => ?_⟩
    · rcases f2 b hb with e | e
      · rw [ob_slice] at e; omega
      · omega
theorem clone_fn {h : Heap} {p : Nat} {v : Value} {wk sl id : Int} {ws : List Wk} (A : PoolAt h p v wk sl id ws) (hwk : 0 < wk) (hs : ws.length ≤ 1000000000) :
    Fx Try.prog 26 #[.pointer (some ⟨p, 0, none⟩)] h fun u h' => ∃ q v', u = .pointer (some ⟨q, 0, none⟩) ∧ PoolAt h' q v' wk sl id ws ∧ ExtH h h' ∧ h.size ≤ q ∧ ∀ b, ob v' b → h.size ≤ b := by
  refine fn_of 16 Try.func26 rfl (by kernel_rfl) rfl (by simp) ?_
  obtain ⟨va, vc, hve, hvm⟩ := A.fix
  subst hve
  refine cw_seq (cw_region rfl ?_)
  refine cw_seq (cw_seq (cw_region rfl ?_))
  conv => whnf
  refine ⟨_, rfl, _, made_fn A, ?_⟩
  rw [decide_eq_true hwk]
  rintro _ h0 ⟨rfl, e⟩
  subst h0
  conv => whnf
  refine cw_false rfl (cw_skip ?_)
  refine cw_seq (cw_region rfl ?_)
  conv => whnf
  refine ⟨_, rfl, A.blk.all, ?_⟩
  conv => whnf
  intro h1 n1
  conv => whnf
  refine ⟨_, _, n1.blk, ⟨by show 4 ≤ 4; decide, rfl, by simp [Value.oneCell']⟩, ?_⟩
  intro h2 w2
  have z1 := n1.size
  have z2 := w2.size
  have x2 : ExtH h h2 := ⟨by omega, fun b hb => by rw [w2.block b (by omega), n1.block b hb]⟩
  have y2 : Blk h2 h.size [.int .i64 wk, .int .i64 sl, .int .i64 id, .slice va ws.length vc] 69 := w2.new
  refine cw_seq (cw_region rfl ?_)
  conv => whnf
  refine ⟨_, (x2.blk A.blk).rd (o := 3) rfl, ?_⟩
  conv => whnf
  refine ⟨_, rfl, _, sliceClone_fn (OW.more A.own x2) hs, ?_⟩
  rintro u h3 ⟨o3, x3, f3⟩
  obtain ⟨a3, c3, hue, _⟩ := o3.fix
  subst hue
  conv => whnf
  refine ⟨_, _, x3.blk y2, by show 3 < 4; decide, ?_⟩
  intro h4 w4
  have z3 := x3.size
  have z4 := w4.size
  have x23 := x2.trans x3
  have z23 := x23.size
  refine cw_seq (cw_region rfl ?_)
  conv => whnf
  exact cw_ret ⟨h.size, .slice a3 ws.length c3, rfl, ⟨w4.new, OwnS.keep o3 w4.chg (fun b hb e => by have := f3 b hb; omega), A.keys⟩, ⟨by omega, fun b hb => by rw [w4.block b (by omega), x23.block b hb]⟩, Nat.le_refl _, fun b hb => by have := f3 b hb; omega⟩
end Go.Proofs.Ytcmjgkjnnmfijaa
