/-
  The laws' same, where both are the same.
-/
import Derived.Test.YtcmjgkjnnmfijaaPoolIdleW
namespace Go.Proofs.Ytcmjgkjnnmfijaa
open Go Vm
set_option maxRecDepth 100000
set_option linter.unusedVariables false
set_option linter.unusedSimpArgs false
theorem sameInts_yes {h : Heap} {av bv : Value} {l : List Int} (ra : RI h av l) (rb : RI h bv l) : Fx Try.prog 51 #[av, bv] h fun u h' => u = .bool true ∧ ExtH h h' := by
  refine fn_of 26 Try.func51 rfl (by kernel_rfl) rfl (by simp) ?_
  obtain ⟨aa, ac, hae, hm⟩ := ra.fix
  obtain ⟨ba, bc, hbe, _⟩ := rb.fix
  subst hae hbe
  have hmax : maxLen < 9223372036854775808 := by decide
  refine cw_seq (cw_region rfl ?_)
  refine cw_seq (cw_seq (cw_region rfl ?_))
  conv => whnf
  refine cw_bne_no rfl rfl (cw_skip ?_)
  refine cw_seq (cw_seq (cw_region rfl ?_))
  refine cw_block ?_
  refine cw_loop (S := Nat) (fun t => [(0, .slice aa l.length ac), (1, .slice ba l.length bc), (5, .int .i64 (t : Int))])
    (fun t h' => t ≤ l.length ∧ ExtH h h') (fun t => l.length - t) 0 ⟨rfl, rfl, rfl, trivial⟩ ⟨by omega, ExtH.refl _⟩ ?_
  rintro t h1 ⟨ht, x1⟩
  refine cw_seq (cw_seq (cw_region rfl ?_))
  conv => whnf
  by_cases hlt : t < l.length
  · refine cw_yes rfl (by show (t : Int) < _; omega) (cw_skip ?_)
    obtain ⟨b, o, rfl, hr⟩ := (ra.more x1).get t hlt
    obtain ⟨b', o', rfl, hr'⟩ := (rb.more x1).get t hlt
    generalize l.getD t 0 = d at hr hr'
    refine cw_seq (cw_block (cw_seq ?_))
    refine cw_drawn (by kernel_rfl) 8 (fun _ => false) (List.range 8) (by kernel_rfl) rfl ?_
    conv => whnf
    refine ⟨⟨by omega, by omega⟩, ?_⟩
    conv => whnf
    refine ⟨_, by rwa [show o + t = o + ((t : Int)).toNat by omega] at hr, ?_⟩
    conv => whnf
    refine ⟨⟨by omega, by omega⟩, ?_⟩
    conv => whnf
    refine ⟨_, by rwa [show o' + t = o' + ((t : Int)).toNat by omega] at hr', ?_⟩
    conv => whnf
    intro h2 x2
    conv => whnf
    refine cw_bne_no rfl rfl (cw_skip ?_)
    refine cw_region rfl ?_
    exact ⟨t + 1, ⟨rfl, rfl, slot_i64 _ _ (by omega) (by omega), trivial⟩, ⟨by omega, x1.trans x2⟩, by omega⟩
  · refine cw_no rfl (by show ¬ (t : Int) < _; omega) (cw_exit ?_)
    refine cw_seq (cw_region rfl ?_)
    exact cw_ret ⟨rfl, x1⟩
theorem told_at_e {n : Int} {s : Bool} {lv : Value} {w : Wk} {e : Int} (hk : w.key.length = 32) : (toldC n s lv w e)[40]? = some (.int .i64 e) := by
  show (wkC w ++ [Value.int .i64 e])[37]? = _
  rw [List.getElem?_append_right (by rw [wkC_length hk]; omega), wkC_length hk]
  rfl
theorem same_yes {h : Heap} {av bv : Value} {l : List Int} {n : Int} {s : Bool} {w : Wk} {e : Int} (hk : w.key.length = 32) (ra : RI h av l) (rb : RI h bv l) :
    Fx Try.prog 24 #[.agg (toldC n s av w e).toArray, .agg (toldC n s bv w e).toArray] h fun u h' => u = .bool true ∧ ExtH h h' := by
  refine fn_of 38 Try.func24 rfl (by kernel_rfl) rfl (by simp) ?_
  refine cw_seq (cw_region rfl ?_)
  conv => whnf
  intro h1 n1
  have ya : Blk h1 h.size (toldC n s av w e) 37 := n1.blk
  have x1 := n1.ext
  clear n1
  conv => whnf
  intro h2 n2
  have yb : Blk h2 h1.size (toldC n s bv w e) 37 := n2.blk
  have x2 := n2.ext
  clear n2
  replace ya := x2.blk ya
  have x02 := x1.trans x2
  refine cw_seq (cw_region rfl ?_)
  conv => whnf
  refine ⟨_, ya.rd (o := 0) rfl, ?_⟩
  conv => whnf
  refine ⟨_, yb.rd (o := 0) rfl, ?_⟩
  refine ops_q (v := .bool true) rfl rfl (fun k hk => say_eq rfl hk) ?_
  conv => whnf
  refine ⟨_, ya.rd (o := 1) rfl, ?_⟩
  conv => whnf
  refine ⟨_, yb.rd (o := 1) rfl, ?_⟩
  conv => whnf
  refine ⟨.bool true, fun w => by cases s <;> kernel_rfl, ?_⟩
  conv => whnf
  refine ⟨wkC w, by rw [wkC_length hk]; rfl, ya.rdN 3 (wkC w) (by simp [toldC]), ?_⟩
  conv => whnf
  refine ⟨wkC w, by rw [wkC_length hk]; rfl, yb.rdN 3 (wkC w) (by simp [toldC]), ?_⟩
  conv => whnf
  refine ⟨.bool true, fun wd => by rw [wk_eq _ _ hk hk, decide_eq_true rfl], ?_⟩
  conv => whnf
  refine ⟨_, ya.rd (told_at_e hk), ?_⟩
  conv => whnf
  refine ⟨_, yb.rd (told_at_e hk), ?_⟩
  refine ops_g (v := .bool true) (b := true) rfl rfl rfl rfl (fun k hk => say_eq rfl hk) ?_
  conv => whnf
  refine ⟨_, ya.rd (o := 2) rfl, ?_⟩
  conv => whnf
  refine ⟨_, yb.rd (o := 2) rfl, ?_⟩
  conv => whnf
  refine ⟨_, rfl, _, sameInts_yes (ra.more x02) (rb.more x02), ?_⟩
  rintro _ h3 ⟨rfl, x3⟩
  conv => whnf
  exact cw_ret ⟨rfl, x02.trans x3⟩
end Go.Proofs.Ytcmjgkjnnmfijaa
