/-
  ShaTexts: digests as text, and their order, are as told: whatever two digests and text, the law returns true, and what was there stays.
-/
import Derived.Test.YtnjimdjojinffaaShaOpen
import Derived.Test.YtnjimdjojinffaaShaTook
import Derived.Test.YtnjimdjojinffaaShaRef2
namespace Go.Proofs.Ytnjimdjojinffaa.shaTexts
open Go Vm
open Go.ChangeShapes Go.WideShapes Go.ChangeAt Go.RowKit
set_option maxRecDepth 100000
set_option linter.unusedVariables false
theorem unhexR_same {s d d' : List UInt8} {e e' : Int} (h : unhexR s d e) (h' : unhexR s d' e') : d' = d ∧ e' = e ∧ d.length = 32 ∧ (e = 0 ∨ e = 23) := by
  by_cases hk : s.length = 64 ∧ Sha.okN s 32
  · have h1 := h.1 hk
    have h2 := h'.1 hk
    refine ⟨h2.1.trans h1.1.symm, h2.2.trans h1.2.symm, ?_, .inl h1.2⟩
    rw [h1.1, Sha.unb_length]
  · have h1 := h.2 hk
    have h2 := h'.2 hk
    refine ⟨h2.1.trans h1.1.symm, h2.2.trans h1.2.symm, ?_, .inr h1.2⟩
    rw [h1.1, List.length_replicate]
theorem law (a b s : List UInt8) (ha : a.length = 32) (hb : b.length = 32) (h : Heap) :
    Fx Try.prog 11 #[.agg (a.map u8v).toArray, .agg (b.map u8v).toArray, .string (bs s)] h fun u h' => u = .bool true ∧ ExtH h h' := by
  refine fn_of 49 Try.func11 rfl (by kernel_rfl) rfl (by simp) ?_
  have la : (a.map u8v).length = 32 := by simpa using ha
  have lb : (b.map u8v).length = 32 := by simpa using hb
  have rp := Sha.cmp_range a b
  have q1 := compare_q a b ha hb
  have q2 := rcompare_q a b ha hb
  have q3 := hex_q a ha
  have q4 := rhex_q a ha
  generalize Sha.cmp a b = p at *
  generalize Sha.hex a = x at *
  refine cw_seq (cw_region rfl ?_)
  conv => whnf
  intro h1 n1
  conv => whnf
  intro h2 n2
  conv => whnf
  have A2 : rdN h2 h.size 0 (a.map u8v) := n2.ext.rdN n1.blk.all
  have B2 : rdN h2 h1.size 0 (b.map u8v) := n2.blk.all
  have x2 := n1.ext.trans n2.ext
  have z1 := n1.size; have z2 := n2.size
  refine cw_seq (cw_region rfl ?_)
  conv => whnf
  refine ⟨_, rfl, _, unhex_fn s h2, ?_⟩
  rintro _ h3 ⟨d, e, rfl, hd, x3⟩
  conv => whnf
  intro h4 n4
  conv => whnf
  have y4 : Blk h4 h3.size (List.replicate 32 (u8v 0)) 37 := n4.blk
  have ld : d.length = 32 := (unhexR_same hd hd).2.2.1
  refine ⟨_, _, y4, ⟨by simp; omega, Eq.trans (b := 32) (by simp [ld]) rfl, by simp [u8v, Value.oneCell']⟩, ?_⟩
  intro h5 w5
  replace w5 := w5.cast (l' := d.map u8v) (by simp [splice, ld])
  have z3 := x3.size; have z4 := n4.size; have z5 := w5.size
  have x5 : ExtH h2 h5 := ⟨by omega, fun b hb => by rw [w5.block b (by omega), n4.block b (by omega), x3.block b hb]⟩
  refine cw_seq (cw_region rfl ?_)
  conv => whnf
  refine ⟨_, rfl, _, runhex_fn s h5, ?_⟩
  rintro _ h6 ⟨d', e', rfl, hd', x6⟩
  obtain ⟨hdd, hee, _, h023⟩ := unhexR_same hd hd'
  subst hdd
  subst hee
  conv => whnf
  intro h7 n7
  conv => whnf
  have y7 : Blk h7 h6.size (List.replicate 32 (u8v 0)) 37 := n7.blk
  refine ⟨_, _, y7, ⟨by simp; omega, Eq.trans (b := 32) (by simp [ld]) rfl, by simp [u8v, Value.oneCell']⟩, ?_⟩
  intro h8 w8
  replace w8 := w8.cast (l' := d'.map u8v) (by simp [splice, ld])
  have z6 := x6.size; have z7 := n7.size; have z8 := w8.size
  have x8 : ExtH h5 h8 := ⟨by omega, fun b hb => by rw [w8.block b (by omega), n7.block b (by omega), x6.block b hb]⟩
  have lm : (d'.map u8v).length = 32 := by simpa using ld
  have D8 : rdN h8 h3.size 0 (d'.map u8v) := x8.rdN w5.new.all
  have E8 : rdN h8 h6.size 0 (d'.map u8v) := w8.new.all
  have A8 := x8.rdN (x5.rdN A2)
  have B8 := x8.rdN (x5.rdN B2)
  have xall := x2.trans (x5.trans x8)
  have qa : FxQ Try.prog 16 #[] h8 (.bool true) := fun h1 _ => awake_fn h1
  generalize h1.size = b1 at *
  generalize h3.size = b3 at *
  generalize h6.size = b6 at *
  clear hd hd' n1 n2 x2 x3 n4 y4 w5 z1 z2 z3 z4 z5 z6 z7 z8 x6 n7 y7 w8 x8 A2 B2 x5
  rcases rp with rfl | rfl | rfl <;> rcases h023 with rfl | rfl
  all_goals
    refine cw_seq ?_
    refine cw_drawn (by kernel_rfl) 28 (fun _ => false) (List.range 28) (by kernel_rfl) rfl ?_
    conv => whnf
    refine ⟨_, la, A8, ?_⟩
    conv => whnf
    refine ⟨_, rfl, _, q3 _, ?_⟩
    conv => whnf
    refine ⟨_, la, A8, ?_⟩
    conv => whnf
    refine ⟨_, rfl, _, q4 _, ?_⟩
    refine head_q (v := .bool true) rfl rfl rfl rfl (fun k hk => ?_) ?_
    · show k (.bool ((bs x).toList == (bs x).toList))
      rw [beq_self_eq_true]
      exact hk
    conv => whnf
    refine ⟨_, la, A8, ?_⟩
    conv => whnf
    refine ⟨_, lb, B8, ?_⟩
    conv => whnf
    refine ⟨_, rfl, _, q1 _, ?_⟩
    conv => whnf
    refine ⟨_, la, A8, ?_⟩
    conv => whnf
    refine ⟨_, lb, B8, ?_⟩
    conv => whnf
    refine ⟨_, rfl, _, q2 _, ?_⟩
    conv => whnf
    refine ⟨_, lm, D8, ?_⟩
    conv => whnf
    refine ⟨_, lm, E8, ?_⟩
    conv => whnf
    refine ⟨.bool true, fun w => dig_same _ _ _ ld w, ?_⟩
    conv => whnf
    refine ⟨_, rfl, _, FxP.q (num_fn _) _, ?_⟩
    conv => whnf
    refine ⟨_, rfl, _, qa, ?_⟩
    conv => whnf
    intro h9 x9
    exact cw_ret ⟨rfl, xall.trans x9⟩
--ROW 'treadlelaw02.ShaTexts' 'shaTexts' 'digest,digest,string' 'said' 'law l0 l1 l2 R0 R1 W.heap'
theorem own : ownKnob Try.prog.godebug = none := by kernel_rfl
theorem laidOut : laidOutB Try.prog = true := by kernel_rfl
theorem contract (H : Type) (enc : TypeId × Value → H) (W : World) (base : Nat) (args : Array Value) (ds gs : List (DataW H)) (before : List MemPlace)
    (hval0 : ∀ (j : Nat) t v, Try.f11.params[j]? = some t → args[j]? = some v → Value.okWide Try.prog W .any base t v)
    (hW : DataW.Whole enc Try.prog Try.f11.params.toList Rows.shaTextsSpec.vars false W args.toList ds gs before) :
    Calls Try.prog 11 args W fun e W' => ∃ v, e = .returned v ∧ Rows.shaTextsSpec.post enc Try.prog Try.f11 false true false false W args v W' := by
  have hval := hval0
  have hW' := hW
  obtain ⟨p, q, hA0, hV, rfl, hfz, hnd⟩ := hW
  have hA : DataW.TrodAll enc Try.prog W 0 (fun _ => true) true Try.f11.params.toList args.toList ds p := hA0
  rw [Try.params11] at hA hval
  obtain ⟨v0, vs0, d0, ds0, p0, q0, hargs, rfl, rfl, h0, r0⟩ := trodAll_cons hA
  obtain ⟨v1, vs1, d1, ds1, p1, q1, rfl, rfl, rfl, h1, r1⟩ := trodAll_cons r0
  obtain ⟨v2, vs2, d2, ds2, p2, q2, rfl, rfl, rfl, h2, r2⟩ := trodAll_cons r1
  obtain ⟨rfl, rfl, rfl⟩ := trodAll_nil r2
  obtain rfl : args = #[v0, v1, v2] := by cases args; simp_all
  obtain ⟨rfl, rfl⟩ := trodVars_none hV
  have k0 := h0
  have lt0 : ∀ x ∈ p0, x.block < W.heap.size := by obtain ⟨m, hm⟩ := k0; exact DataW.trod_lt m _ _ _ hm
  obtain ⟨l0, R0, rfl⟩ := open_digest (hval 0 37 v0 rfl rfl) h0
  have k1 := h1
  have lt1 : ∀ x ∈ p1, x.block < W.heap.size := by obtain ⟨m, hm⟩ := k1; exact DataW.trod_lt m _ _ _ hm
  obtain ⟨l1, R1, rfl⟩ := open_digest (hval 1 37 v1 rfl rfl) h1
  have k2 := h2
  have lt2 : ∀ x ∈ p2, x.block < W.heap.size := by obtain ⟨m, hm⟩ := k2; exact DataW.trod_lt m _ _ _ hm
  obtain ⟨s2, rfl, rfl, rfl, ws2⟩ := Go.ChangeMaps.open_string Try.underlying9 (hval 2 9 v2 rfl rfl) h2
  obtain ⟨l2, rfl⟩ : ∃ l, s2 = bs l := ⟨s2.data.toList, by cases s2; simp [bs]⟩
  clear hA0 hval0
  refine (Fx.calls (by kernel_rfl) (law l0 l1 l2 R0 R1 W.heap)).mono fun e W' ⟨he, bel⟩ => ?_
  subst he
  exact ⟨_, rfl, _, _, _, [], _, [], hW', trodAll_mk1 (shut_bool Try.underlying4 _), (trodAll_cons_mk (Below.trod laidOut (by kernel_rfl) (of_decide_eq_true (by kernel_rfl)) k0 bel lt0) (trodAll_cons_mk (Below.trod laidOut (by kernel_rfl) (of_decide_eq_true (by kernel_rfl)) k1 bel lt1) (trodAll_cons_mk (Below.trod laidOut (by kernel_rfl) (of_decide_eq_true (by kernel_rfl)) k2 bel lt2) trodAll_mk0))), rfl, bel.frame _, fun h => by cases h⟩
theorem lifted (os : Os) (started : os.Started) (H : Type) (enc : TypeId × Value → H) :
    ReturnsInHanded {} Try.checked os 11 .any (Rows.shaTextsSpec.pre6 enc Try.prog Try.f11 Rows.shaTextsRow.domain false) (Rows.shaTextsSpec.post enc Try.prog Try.f11 false true false false) := by
  refine returnsInHanded_of_change (C := Try.checked) own started (by kernel_rfl) Try.func11
    (ChangeSpec.witness6 (enc := enc) (C := Try.checked) false ⟨#[], #[.agg (List.replicate 32 (.int .u8 0)).toArray, .agg (List.replicate 32 (.int .u8 0)).toArray, .string ByteArray.empty], []⟩ 8 (by kernel_rfl) (by kernel_rfl) (by kernel_rfl) (by kernel_rfl)) ?_
  intro W base args ds gs before hval hW _ _
  exact contract H enc W base args ds gs before hval hW
theorem over : Rows.shaTextsRow.holds Try.pinned (OpenSpec.ofChange Rows.shaTextsSpec) :=
  OpenClaim.holds_of_wide 11 Try.f11 rfl rfl rfl rfl rfl rfl rfl ⟨rfl, rfl, rfl, rfl, rfl⟩ rfl rfl rfl rfl rfl (by kernel_rfl) Try.func11 (by kernel_rfl)
    (of_decide_eq_true (by kernel_rfl)) (by unfold Func.isWrapper; first | (rw [if_pos (by decide +kernel)]; kernel_rfl) | (rw [if_neg (by decide +kernel)]; exact ⟨rfl, rfl⟩))
    (fun os started H enc _ => lifted os started H enc)
theorem proved : Rows.ShaTextsSaid := over
end Go.Proofs.Ytnjimdjojinffaa.shaTexts
