/-
  ShaBack: digests as text are read back: whatever the digest and the text, the law returns true, and what was there stays.
-/
import Derived.Test.YtnjimdjojinffaaShaOpen
import Derived.Test.YtnjimdjojinffaaShaBackL
namespace Go.Proofs.Ytnjimdjojinffaa.shaBack
open Go Vm
open Go.ChangeShapes Go.WideShapes Go.ChangeAt Go.RowKit
set_option maxRecDepth 100000
set_option linter.unusedVariables false
theorem law (l s : List UInt8) (hl : l.length = 32) (h : Heap) :
    Fx Try.prog 10 #[.agg (l.map u8v).toArray, .string (bs s)] h fun u h' => u = .bool true ∧ ExtH h h' := by
  refine fn_of 52 Try.func10 rfl (by kernel_rfl) rfl (by simp) ?_
  have la : (l.map u8v).length = 32 := by simpa using hl
  have hx64 : (Sha.hex l).length = 64 := by rw [Sha.hex_length, hl]
  refine cw_seq (cw_region rfl ?_)
  conv => whnf
  intro h1 n1
  conv => whnf
  refine cw_seq (cw_region rfl ?_)
  conv => whnf
  refine ⟨_, la, n1.blk.all, ?_⟩
  conv => whnf
  refine ⟨_, rfl, _, hex_fn l hl h1, ?_⟩
  rintro _ h2 ⟨rfl, x2⟩
  conv => whnf
  refine ⟨_, rfl, _, unhex_fn (Sha.hex l) h2, ?_⟩
  rintro _ h3 ⟨d, e, rfl, hd, x3⟩
  have hok : Sha.okN (Sha.hex l) 32 := hl ▸ Sha.ok_hex l
  have hd1 := hd.1 ⟨hx64, hok⟩
  have e1 := hd1.1
  have e2 := hd1.2
  rw [Sha.unb_hex l 32 (by omega), List.take_of_length_le (by omega)] at e1
  subst d
  subst e2
  conv => whnf
  intro h4 n4
  conv => whnf
  have y4 : Blk h4 h3.size (List.replicate 32 (u8v 0)) 37 := n4.blk
  refine ⟨_, _, y4, ⟨by simp; omega, Eq.trans (b := 32) (by simp [hl]) rfl, by simp [u8v, Value.oneCell']⟩, ?_⟩
  intro h5 w5
  replace w5 := w5.cast (l' := l.map u8v) (by simp [splice, hl])
  have z1 := n1.size; have z2 := x2.size; have z3 := x3.size; have z4 := n4.size; have z5 := w5.size
  have x5 : ExtH h h5 := ⟨by omega, fun b hb => by rw [w5.block b (by omega), n4.block b (by omega), x3.block b (by omega), x2.block b (by omega), n1.block b hb]⟩
  have a5 : rdN h5 h.size 0 (l.map u8v) := w5.rdN (n4.ext.rdN (x3.rdN (x2.rdN n1.blk.all))) (by omega)
  refine cw_seq (cw_seq (cw_region rfl ?_))
  conv => whnf
  refine ⟨_, la, w5.new.all, ?_⟩
  conv => whnf
  refine ⟨_, la, a5, ?_⟩
  conv => whnf
  refine ⟨.bool false, fun w => (dig_ne _ _ _ _ hl hl w).trans (by simp), ?_⟩
  conv => whnf
  refine ⟨_, la, a5, ?_⟩
  conv => whnf
  refine ⟨_, rfl, _, hex_fn l hl h5, ?_⟩
  rintro _ h6 ⟨rfl, x6⟩
  conv => whnf
  refine cw_bne_no rfl (by show (((Sha.hex l).length : Nat) : Int) = 64; omega) (cw_skip ?_)
  refine cw_seq (cw_region rfl ?_)
  conv => whnf
  refine ⟨_, rfl, _, unhex_fn s h6, ?_⟩
  rintro _ h7 ⟨d, e, rfl, hd, x7⟩
  have ld : d.length = 32 := by
    by_cases hk : s.length = 64 ∧ Sha.okN s 32
    · rw [(hd.1 hk).1, Sha.unb_length]
    · rw [(hd.2 hk).1, List.length_replicate]
  conv => whnf
  intro h8 n8
  conv => whnf
  have y8 : Blk h8 h7.size (List.replicate 32 (u8v 0)) 37 := n8.blk
  refine ⟨_, _, y8, ⟨by simp; omega, Eq.trans (b := 32) (by simp [ld]) rfl, by simp [u8v, Value.oneCell']⟩, ?_⟩
  intro h9 w9
  replace w9 := w9.cast (l' := d.map u8v) (by simp [splice, ld])
  have z6 := x6.size; have z7 := x7.size; have z8 := n8.size; have z9 := w9.size
  have x9 : ExtH h h9 := ⟨by omega, fun b hb => by rw [w9.block b (by omega), n8.block b (by omega), x7.block b (by omega), x6.block b (by omega), x5.block b hb]⟩
  refine cw_seq (cw_seq (cw_region rfl ?_))
  conv => whnf
  have lm : (d.map u8v).length = 32 := by simpa using ld
  by_cases hk : s.length = 64 ∧ Sha.okN s 32
  · have hd1 := hd.1 hk
    have e1 := hd1.1
    have e2 := hd1.2
    have hhex : Sha.hex d = s := by rw [e1, Sha.hex_unb s 32 (by omega) hk.2, List.take_of_length_le (by omega)]
    clear e1 hd1 hd
    subst e2
    refine cw_bne_no rfl rfl (cw_skip ?_)
    refine cw_seq (cw_region rfl ?_)
    conv => whnf
    refine ⟨_, lm, w9.new.all, ?_⟩
    conv => whnf
    refine ⟨_, rfl, _, hex_fn _ ld h9, ?_⟩
    rintro _ h10 ⟨rfl, x10⟩
    rw [hhex]
    refine ops_q rfl rfl (fun k hk => hk) ?_
    refine ops_q (v := .bool true) rfl rfl (fun k hk => ?_) ?_
    · show k (.bool ((bs s).toList == (bs s).toList))
      rw [beq_self_eq_true]
      exact hk
    conv => whnf
    refine ⟨_, rfl, _, awake_fn h10, ?_⟩
    rintro _ h11 ⟨rfl, x11⟩
    exact cw_ret ⟨rfl, (x9.trans x10).trans x11⟩
  · have hd1 := hd.2 hk
    have e1 := hd1.1
    have e2 := hd1.2
    subst e2
    refine cw_bne_yes rfl (by decide) ?_
    refine cw_seq (cw_region rfl ?_)
    conv => whnf
    refine ⟨_, lm, w9.new.all, ?_⟩
    conv => whnf
    refine ⟨_, rfl, ((List.replicate 32 (0 : UInt8)).map u8v).toArray, fun w => by kernel_rfl, ?_⟩
    conv => whnf
    refine ⟨.bool true, fun w => (dig_eq _ _ d (List.replicate 32 0) ld (by simp) w).trans (by rw [decide_eq_true e1]), ?_⟩
    conv => whnf
    refine ⟨_, rfl, _, awake_fn h9, ?_⟩
    rintro _ h11 ⟨rfl, x11⟩
    exact cw_ret ⟨rfl, x9.trans x11⟩
--ROW 'treadlelaw02.ShaBack' 'shaBack' 'digest,string' 'said' 'law l0 l1 R0 W.heap'
theorem own : ownKnob Try.prog.godebug = none := by kernel_rfl
theorem laidOut : laidOutB Try.prog = true := by kernel_rfl
theorem contract (H : Type) (enc : TypeId × Value → H) (W : World) (base : Nat) (args : Array Value) (ds gs : List (DataW H)) (before : List MemPlace)
    (hval0 : ∀ (j : Nat) t v, Try.f10.params[j]? = some t → args[j]? = some v → Value.okWide Try.prog W .any base t v)
    (hW : DataW.Whole enc Try.prog Try.f10.params.toList Rows.shaBackSpec.vars false W args.toList ds gs before) :
    Calls Try.prog 10 args W fun e W' => ∃ v, e = .returned v ∧ Rows.shaBackSpec.post enc Try.prog Try.f10 false true false false W args v W' := by
  have hval := hval0
  have hW' := hW
  obtain ⟨p, q, hA0, hV, rfl, hfz, hnd⟩ := hW
  have hA : DataW.TrodAll enc Try.prog W 0 (fun _ => true) true Try.f10.params.toList args.toList ds p := hA0
  rw [Try.params10] at hA hval
  obtain ⟨v0, vs0, d0, ds0, p0, q0, hargs, rfl, rfl, h0, r0⟩ := trodAll_cons hA
  obtain ⟨v1, vs1, d1, ds1, p1, q1, rfl, rfl, rfl, h1, r1⟩ := trodAll_cons r0
  obtain ⟨rfl, rfl, rfl⟩ := trodAll_nil r1
  obtain rfl : args = #[v0, v1] := by cases args; simp_all
  obtain ⟨rfl, rfl⟩ := trodVars_none hV
  have k0 := h0
  have lt0 : ∀ x ∈ p0, x.block < W.heap.size := by obtain ⟨m, hm⟩ := k0; exact DataW.trod_lt m _ _ _ hm
  obtain ⟨l0, R0, rfl⟩ := open_digest (hval 0 37 v0 rfl rfl) h0
  have k1 := h1
  have lt1 : ∀ x ∈ p1, x.block < W.heap.size := by obtain ⟨m, hm⟩ := k1; exact DataW.trod_lt m _ _ _ hm
  obtain ⟨s1, rfl, rfl, rfl, ws1⟩ := Go.ChangeMaps.open_string Try.underlying9 (hval 1 9 v1 rfl rfl) h1
  obtain ⟨l1, rfl⟩ : ∃ l, s1 = bs l := ⟨s1.data.toList, by cases s1; simp [bs]⟩
  clear hA0 hval0
  refine (Fx.calls (by kernel_rfl) (law l0 l1 R0 W.heap)).mono fun e W' ⟨he, bel⟩ => ?_
  subst he
  exact ⟨_, rfl, _, _, _, [], _, [], hW', trodAll_mk1 (shut_bool Try.underlying4 _), (trodAll_cons_mk (Below.trod laidOut (by kernel_rfl) (of_decide_eq_true (by kernel_rfl)) k0 bel lt0) (trodAll_cons_mk (Below.trod laidOut (by kernel_rfl) (of_decide_eq_true (by kernel_rfl)) k1 bel lt1) trodAll_mk0)), rfl, bel.frame _, fun h => by cases h⟩
theorem lifted (os : Os) (started : os.Started) (H : Type) (enc : TypeId × Value → H) :
    ReturnsInHanded {} Try.checked os 10 .any (Rows.shaBackSpec.pre6 enc Try.prog Try.f10 Rows.shaBackRow.domain false) (Rows.shaBackSpec.post enc Try.prog Try.f10 false true false false) := by
  refine returnsInHanded_of_change (C := Try.checked) own started (by kernel_rfl) Try.func10
    (ChangeSpec.witness6 (enc := enc) (C := Try.checked) false ⟨#[], #[.agg (List.replicate 32 (.int .u8 0)).toArray, .string ByteArray.empty], []⟩ 8 (by kernel_rfl) (by kernel_rfl) (by kernel_rfl) (by kernel_rfl)) ?_
  intro W base args ds gs before hval hW _ _
  exact contract H enc W base args ds gs before hval hW
theorem over : Rows.shaBackRow.holds Try.pinned (OpenSpec.ofChange Rows.shaBackSpec) :=
  OpenClaim.holds_of_wide 10 Try.f10 rfl rfl rfl rfl rfl rfl rfl ⟨rfl, rfl, rfl, rfl, rfl⟩ rfl rfl rfl rfl rfl (by kernel_rfl) Try.func10 (by kernel_rfl)
    (of_decide_eq_true (by kernel_rfl)) (by unfold Func.isWrapper; first | (rw [if_pos (by decide +kernel)]; kernel_rfl) | (rw [if_neg (by decide +kernel)]; exact ⟨rfl, rfl⟩))
    (fun os started H enc _ => lifted os started H enc)
theorem proved : Rows.ShaBackSaid := over
end Go.Proofs.Ytnjimdjojinffaa.shaBack
