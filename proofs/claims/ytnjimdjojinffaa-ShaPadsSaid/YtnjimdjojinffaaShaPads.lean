/-
  ShaPads: the padding of every length is the one that SHA-256 says: whatever the number, the law returns true, and what was there stays.
-/
import Derived.Test.YtnjimdjojinffaaRows
import Derived.Test.YtnjimdjojinffaaShaRef1
import Derived.Test.YtnjimdjojinffaaShaRow
namespace Go.Proofs.Ytnjimdjojinffaa.shaPads
open Go Vm
open Go.ChangeShapes Go.WideShapes Go.ChangeAt Go.RowKit
set_option maxRecDepth 100000
set_option linter.unusedVariables false
theorem law (n : Nat) (hn : n < 18446744073709551616) (h : Heap) : Fx Try.prog 3 #[.int .u64 (n : Int)] h fun u h' => u = .bool true ∧ ExtH h h' := by
  refine fn_of 29 Try.func3 rfl (by kernel_rfl) rfl (by simp) ?_
  refine cw_seq (cw_region rfl ?_)
  by_cases hb : n ≤ 2305843009213693951
  · refine cw_seq (cw_region rfl ?_)
    conv => whnf
    refine ⟨_, rfl, _, pad_yes n hb h, ?_⟩
    rintro _ h1 ⟨v1, rfl, o1, x1, f1⟩
    conv => whnf
    refine cw_seq (cw_region rfl ?_)
    conv => whnf
    refine ⟨_, rfl, _, rpad_yes n hb h1, ?_⟩
    rintro _ h2 ⟨v2, rfl, o2, x2, f2⟩
    conv => whnf
    refine cw_seq (cw_region rfl ?_)
    conv => whnf
    refine ⟨_, rfl, _, num_fn 0 h2, ?_⟩
    rintro _ h3 ⟨rfl, e⟩
    subst h3
    conv => whnf
    refine ⟨_, rfl, _, alike_fn (RB.more o1.r x2) o2.r, ?_⟩
    rintro _ h3 ⟨rfl, x3⟩
    rw [decide_eq_true rfl]
    conv => whnf
    refine ⟨_, rfl, _, awake_fn h3, ?_⟩
    rintro _ h4 ⟨rfl, x4⟩
    exact cw_ret ⟨rfl, (x1.trans x2).trans (x3.trans x4)⟩
  · refine cw_seq (cw_region rfl ?_)
    conv => whnf
    refine ⟨_, rfl, _, pad_no n (by omega) h, ?_⟩
    rintro _ h1 ⟨rfl, e⟩
    subst h1
    conv => whnf
    refine cw_seq (cw_region rfl ?_)
    conv => whnf
    refine ⟨_, rfl, _, rpad_no n (by omega) h, ?_⟩
    rintro _ h2 ⟨rfl, e⟩
    subst h2
    conv => whnf
    refine cw_seq (cw_region rfl ?_)
    conv => whnf
    refine ⟨_, rfl, _, num_fn 21 h, ?_⟩
    rintro _ h3 ⟨rfl, e⟩
    subst h3
    conv => whnf
    refine ⟨_, rfl, _, alike_fn (OB.nil h).r (OB.nil h).r, ?_⟩
    rintro _ h3 ⟨rfl, x3⟩
    rw [decide_eq_true rfl]
    conv => whnf
    refine ⟨_, rfl, _, awake_fn h3, ?_⟩
    rintro _ h4 ⟨rfl, x4⟩
    exact cw_ret ⟨rfl, x3.trans x4⟩
theorem own : ownKnob Try.prog.godebug = none := by kernel_rfl
theorem laidOut : laidOutB Try.prog = true := by kernel_rfl
theorem lifted (os : Os) (started : os.Started) (H : Type) (enc : TypeId × Value → H) :
    ReturnsInHanded {} Try.checked os 3 .any (Rows.shaPadsSpec.pre6 enc Try.prog Try.f3 Rows.shaPadsRow.domain false) (Rows.shaPadsSpec.post enc Try.prog Try.f3 false true false false) := by
  refine returnsInHanded_of_change (C := Try.checked) own started (by kernel_rfl) Try.func3
    (ChangeSpec.witness6 (enc := enc) (C := Try.checked) false ⟨#[], #[.int .u64 0], []⟩ 8 (by kernel_rfl) (by kernel_rfl) (by kernel_rfl) (by kernel_rfl)) ?_
  intro W base args ds gs before hval0 hW hcnd _
  have hval : ∀ (j : Nat) t v, Try.f3.params[j]? = some t → args[j]? = some v → Value.okWide Try.prog W .any base t v := hval0
  have hW' := hW
  obtain ⟨p, q, hA0, hV, rfl, hfz, hnd⟩ := hW
  have hA : DataW.TrodAll enc Try.prog W 0 (fun _ => true) true Try.f3.params.toList args.toList ds p := hA0
  rw [Try.params3] at hA hval
  obtain ⟨v0, vs0, d0, ds0, p0, q0, hargs, rfl, rfl, h0, r0⟩ := trodAll_cons hA
  obtain ⟨rfl, rfl, rfl⟩ := trodAll_nil r0
  obtain rfl : args = #[v0] := by cases args; simp_all
  obtain ⟨rfl, rfl⟩ := trodVars_none hV
  obtain ⟨a0, rfl, rfl, rfl, w0⟩ := open_int Try.underlying22 (hval 0 22 v0 rfl rfl) h0
  clear hA0 hval0
  have hx : 0 ≤ a0 ∧ a0 ≤ 18446744073709551615 := by simpa [Lit.wf, IntKind.min, IntKind.max, IntKind.signed, IntKind.bits] using w0
  obtain ⟨n, rfl⟩ : ∃ n : Nat, a0 = n := ⟨a0.toNat, by omega⟩
  refine (Fx.calls (by kernel_rfl) (law n (by omega) W.heap)).mono fun e W' ⟨he, bel⟩ => ?_
  subst he
  exact ⟨_, rfl, _, _, _, [], _, [], hW', trodAll_mk1 (shut_bool Try.underlying4 _), (trodAll_cons_mk (shut_int Try.underlying22 w0) trodAll_mk0), rfl, bel.frame _, fun h => by cases h⟩
theorem over : Rows.shaPadsRow.holds Try.pinned (OpenSpec.ofChange Rows.shaPadsSpec) :=
  OpenClaim.holds_of_wide 3 Try.f3 rfl rfl rfl rfl rfl rfl rfl ⟨rfl, rfl, rfl, rfl, rfl⟩ rfl rfl rfl rfl rfl (by kernel_rfl) Try.func3 (by kernel_rfl)
    (of_decide_eq_true (by kernel_rfl)) (by unfold Func.isWrapper; first | (rw [if_pos (by decide +kernel)]; kernel_rfl) | (rw [if_neg (by decide +kernel)]; exact ⟨rfl, rfl⟩))
    (fun os started H enc _ => lifted os started H enc)
theorem proved : Rows.ShaPadsSaid := over
end Go.Proofs.Ytnjimdjojinffaa.shaPads
