/-
  ShaOrder: the order of digests is an order: whatever three digests, the law returns true, and what was there stays.
-/
import Derived.Test.YtnjimdjojinffaaShaOpen
namespace Go.Proofs.Ytnjimdjojinffaa.shaOrder
open Go Vm
open Go.ChangeShapes Go.WideShapes Go.ChangeAt Go.RowKit
set_option maxRecDepth 100000
set_option linter.unusedVariables false
theorem dig_eqv (xo yo : Operand) (l m : List UInt8) (h1 : l.length = 32) (h2 : m.length = 32) (b : Bool) (hb : decide (l = m) = b) (w : World) :
    (do eqGuard .eql 37 xo yo (.agg (l.map u8v).toArray) (.agg (m.map u8v).toArray); binOp .eql 37 (.agg (l.map u8v).toArray) (.agg (m.map u8v).toArray) : Sem Value).run Try.prog w = .ok (.bool b) w := by
  rw [dig_eq xo yo l m h1 h2 w, hb]
theorem law (a b c : List UInt8) (ha : a.length = 32) (hb : b.length = 32) (hc : c.length = 32) (h : Heap) :
    Fx Try.prog 7 #[.agg (a.map u8v).toArray, .agg (b.map u8v).toArray, .agg (c.map u8v).toArray] h fun u h' => u = .bool true ∧ ExtH h h' := by
  refine fn_of 76 Try.func7 rfl (by kernel_rfl) rfl (by simp) ?_
  have sw := Sha.cmp_swap a b
  have ze := Sha.cmp_zero a b
  have tr := Sha.cmp_trans a b c
  have le := Sha.hex_less a b
  have inj := Sha.hex_inj a b
  have rp := Sha.cmp_range a b
  have rq := Sha.cmp_range b c
  have rr := Sha.cmp_range a c
  have qp := compare_q a b ha hb
  have qq := compare_q b c hb hc
  have qr := compare_q a c ha hc
  have qs := compare_q b a hb ha
  rw [sw] at qs
  have q1 := hex_q a ha
  have q2 := hex_q b hb
  generalize Sha.cmp a b = p at *
  generalize Sha.cmp b c = q at *
  generalize Sha.cmp a c = r at *
  generalize Sha.hex a = x at *
  generalize Sha.hex b = y at *
  refine cw_seq (cw_region rfl ?_)
  conv => whnf
  intro h1 n1
  conv => whnf
  intro h2 n2
  conv => whnf
  intro h3 n3
  have x3 := (n1.ext.trans n2.ext).trans n3.ext
  have A : rdN h3 h.size 0 (a.map u8v) := n3.ext.rdN (n2.ext.rdN n1.blk.all)
  have B : rdN h3 h1.size 0 (b.map u8v) := n3.ext.rdN n2.blk.all
  have C : rdN h3 h2.size 0 (c.map u8v) := n3.blk.all
  generalize h1.size = b1 at *
  generalize h2.size = b2 at *
  clear n1 n2 n3 h1 h2
  have la : (a.map u8v).length = 32 := by simpa using ha
  have lb : (b.map u8v).length = 32 := by simpa using hb
  have lc : (c.map u8v).length = 32 := by simpa using hc
  refine cw_seq ?_
  refine cw_drawn (by kernel_rfl) 11 (fun _ => false) (List.range 11) (by kernel_rfl) rfl ?_
  conv => whnf
  refine ⟨_, la, A, ?_⟩
  conv => whnf
  refine ⟨_, lb, B, ?_⟩
  conv => whnf
  refine ⟨_, rfl, _, qp _, ?_⟩
  conv => whnf
  refine ⟨_, lb, B, ?_⟩
  conv => whnf
  refine ⟨_, lc, C, ?_⟩
  conv => whnf
  refine ⟨_, rfl, _, qq _, ?_⟩
  conv => whnf
  refine ⟨_, la, A, ?_⟩
  conv => whnf
  refine ⟨_, lc, C, ?_⟩
  conv => whnf
  refine ⟨_, rfl, _, qr _, ?_⟩
  conv => whnf
  intro h4 x4
  replace A := x4.rdN A
  replace B := x4.rdN B
  clear C lc
  clear qp qq qr
  have hless : Op.bytesLess (bs x).toList (bs y).toList = decide (p < 0) := by rw [bs_toList, bs_toList]; exact le
  have heq : ((bs x).toList == (bs y).toList) = decide (p = 0) := by
    rw [bs_toList, bs_toList, Bool.eq_iff_iff]
    simp [ze, inj]
  have hab : decide (a = b) = decide (p = 0) := by
    rw [Bool.eq_iff_iff]
    simp [ze]
  have tr' : ¬ (p ≤ 0 ∧ q ≤ 0 ∧ 0 < r) := fun ⟨h1, h2, h3⟩ => by have := tr h1 h2; omega
  clear le inj ze sw tr
  refine cw_seq (cw_seq (cw_region rfl ?_))
  rcases rp with rfl | rfl | rfl <;> rcases rq with rfl | rfl | rfl <;> rcases rr with rfl | rfl | rfl
  all_goals first
    | exact absurd ⟨by decide, by decide, by decide⟩ tr'
    | skip
  all_goals
    conv => whnf
    refine ⟨_, lb, B, ?_⟩
    conv => whnf
    refine ⟨_, la, A, ?_⟩
    conv => whnf
    refine ⟨_, rfl, _, qs _ _ (ExtH.refl _), ?_⟩
    rintro _ h5 ⟨rfl, x5⟩
    conv => whnf
    refine ⟨_, la, x5.rdN A, ?_⟩
    conv => whnf
    refine ⟨_, lb, x5.rdN B, ?_⟩
    conv => whnf
    refine ⟨_, fun w => dig_eqv _ _ _ _ ha hb _ hab w, ?_⟩
    conv => whnf
    refine ⟨.bool false, fun w => by kernel_rfl, ?_⟩
    refine cw_false rfl (cw_skip ?_)
    refine cw_seq ?_
    refine cw_drawn (by kernel_rfl) 5 (fun _ => false) (List.range 5) (by kernel_rfl) rfl ?_
    conv => whnf
    refine ⟨_, la, x5.rdN A, ?_⟩
    conv => whnf
    refine ⟨_, rfl, _, q1 _, ?_⟩
    conv => whnf
    refine ⟨_, lb, x5.rdN B, ?_⟩
    conv => whnf
    refine ⟨_, rfl, _, q2 _, ?_⟩
    conv => whnf
    intro h6 x6
    refine cw_seq (cw_region rfl ?_)
    conv => whnf
    refine ⟨.bool true, fun w => by rw [hless]; kernel_rfl, ?_⟩
    conv => whnf
    refine ⟨.bool true, fun w => by rw [heq]; kernel_rfl, ?_⟩
    conv => whnf
    refine ⟨_, rfl, _, awake_fn h6, ?_⟩
    rintro _ h7 ⟨rfl, x7⟩
    exact cw_ret ⟨rfl, ((x3.trans x4).trans (x5.trans x6)).trans x7⟩
--ROW 'treadlelaw02.ShaOrder' 'shaOrder' 'digest,digest,digest' 'said' 'law l0 l1 l2 R0 R1 R2 W.heap'
theorem own : ownKnob Try.prog.godebug = none := by kernel_rfl
theorem laidOut : laidOutB Try.prog = true := by kernel_rfl
theorem contract (H : Type) (enc : TypeId × Value → H) (W : World) (base : Nat) (args : Array Value) (ds gs : List (DataW H)) (before : List MemPlace)
    (hval0 : ∀ (j : Nat) t v, Try.f7.params[j]? = some t → args[j]? = some v → Value.okWide Try.prog W .any base t v)
    (hW : DataW.Whole enc Try.prog Try.f7.params.toList Rows.shaOrderSpec.vars false W args.toList ds gs before) :
    Calls Try.prog 7 args W fun e W' => ∃ v, e = .returned v ∧ Rows.shaOrderSpec.post enc Try.prog Try.f7 false true false false W args v W' := by
  have hval := hval0
  have hW' := hW
  obtain ⟨p, q, hA0, hV, rfl, hfz, hnd⟩ := hW
  have hA : DataW.TrodAll enc Try.prog W 0 (fun _ => true) true Try.f7.params.toList args.toList ds p := hA0
  rw [Try.params7] at hA hval
  obtain ⟨v0, vs0, d0, ds0, p0, q0, hargs, rfl, rfl, h0, r0⟩ := trodAll_cons hA
  obtain ⟨v1, vs1, d1, ds1, p1, q1, rfl, rfl, rfl, h1, r1⟩ := trodAll_cons r0
  obtain ⟨v2, vs2, d2, ds2, p2, q2, rfl, rfl, rfl, h2, r2⟩ := trodAll_cons r1
  obtain ⟨rfl, rfl, rfl⟩ := trodAll_nil r2
  obtain rfl : args = #[v0, v1, v2] := by cases args; simp_all
  obtain ⟨rfl, rfl⟩ := trodVars_none hV
  have k0 := h0
  have lt0 : ∀ x ∈ p0, x.block < W.heap.size := by obtain ⟨m, hm⟩ := k0; exact DataW.trod_lt m _ _ _ hm
  obtain ⟨l0, R0, rfl⟩ := open_digest (hval 0 37 v0 rfl rfl) h0
  have k1 := h1
  have lt1 : ∀ x ∈ p1, x.block < W.heap.size := by obtain ⟨m, hm⟩ := k1; exact DataW.trod_lt m _ _ _ hm
  obtain ⟨l1, R1, rfl⟩ := open_digest (hval 1 37 v1 rfl rfl) h1
  have k2 := h2
  have lt2 : ∀ x ∈ p2, x.block < W.heap.size := by obtain ⟨m, hm⟩ := k2; exact DataW.trod_lt m _ _ _ hm
  obtain ⟨l2, R2, rfl⟩ := open_digest (hval 2 37 v2 rfl rfl) h2
  clear hA0 hval0
  refine (Fx.calls (by kernel_rfl) (law l0 l1 l2 R0 R1 R2 W.heap)).mono fun e W' ⟨he, bel⟩ => ?_
  subst he
  exact ⟨_, rfl, _, _, _, [], _, [], hW', trodAll_mk1 (shut_bool Try.underlying4 _), (trodAll_cons_mk (Below.trod laidOut (by kernel_rfl) (of_decide_eq_true (by kernel_rfl)) k0 bel lt0) (trodAll_cons_mk (Below.trod laidOut (by kernel_rfl) (of_decide_eq_true (by kernel_rfl)) k1 bel lt1) (trodAll_cons_mk (Below.trod laidOut (by kernel_rfl) (of_decide_eq_true (by kernel_rfl)) k2 bel lt2) trodAll_mk0))), rfl, bel.frame _, fun h => by cases h⟩
theorem lifted (os : Os) (started : os.Started) (H : Type) (enc : TypeId × Value → H) :
    ReturnsInHanded {} Try.checked os 7 .any (Rows.shaOrderSpec.pre6 enc Try.prog Try.f7 Rows.shaOrderRow.domain false) (Rows.shaOrderSpec.post enc Try.prog Try.f7 false true false false) := by
  refine returnsInHanded_of_change (C := Try.checked) own started (by kernel_rfl) Try.func7
    (ChangeSpec.witness6 (enc := enc) (C := Try.checked) false ⟨#[], #[.agg (List.replicate 32 (.int .u8 0)).toArray, .agg (List.replicate 32 (.int .u8 0)).toArray, .agg (List.replicate 32 (.int .u8 0)).toArray], []⟩ 8 (by kernel_rfl) (by kernel_rfl) (by kernel_rfl) (by kernel_rfl)) ?_
  intro W base args ds gs before hval hW _ _
  exact contract H enc W base args ds gs before hval hW
theorem over : Rows.shaOrderRow.holds Try.pinned (OpenSpec.ofChange Rows.shaOrderSpec) :=
  OpenClaim.holds_of_wide 7 Try.f7 rfl rfl rfl rfl rfl rfl rfl ⟨rfl, rfl, rfl, rfl, rfl⟩ rfl rfl rfl rfl rfl (by kernel_rfl) Try.func7 (by kernel_rfl)
    (of_decide_eq_true (by kernel_rfl)) (by unfold Func.isWrapper; first | (rw [if_pos (by decide +kernel)]; kernel_rfl) | (rw [if_neg (by decide +kernel)]; exact ⟨rfl, rfl⟩))
    (fun os started H enc _ => lifted os started H enc)
theorem proved : Rows.ShaOrderSaid := over
end Go.Proofs.Ytnjimdjojinffaa.shaOrder
