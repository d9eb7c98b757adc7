/-
  ShaExtends: a digest goes on from its state alone: whatever bytes (of bulk at most 1048576), the law returns true, and what was there stays.
-/
import Derived.Test.YtnjimdjojinffaaShaLoad
namespace Go.Proofs.Ytnjimdjojinffaa.shaExtends
open Go Vm
open Go.ChangeShapes Go.WideShapes Go.ChangeAt Go.RowKit
set_option maxRecDepth 100000
set_option linter.unusedVariables false
theorem law (v0 v1 : Value) (m x : List UInt8) (h : Heap) (R0 : RD (fun k => k < h.size) h v0 m) (R1 : RD (fun k => k < h.size) h v1 x)
    (hm : m.length ≤ 1048576) (hx : x.length ≤ 1048576) :
    Fx Try.prog 6 #[v0, v1] h fun u h' => u = .bool true ∧ ExtH h h' := by
  refine fn_of 59 Try.func6 rfl (by kernel_rfl) rfl (by simp) ?_
  obtain ⟨a0, c0, e0⟩ := R0.1.len
  obtain ⟨a1, c1, e1⟩ := R1.1.len
  have hz : Sha.zeros m.length < 64 := by unfold Sha.zeros; omega
  have hpl := Sha.pad_length m.length
  have hpm : (m.length + (Sha.pad m.length).length) % 64 = 0 := by rw [hpl]; unfold Sha.zeros; omega
  refine cw_seq (cw_region rfl ?_)
  refine cw_seq (cw_region rfl ?_)
  subst e0 e1
  have w1 := u64_in (m.length : Int) m.length rfl (by omega)
  conv => whnf
  rw [w1]
  refine ⟨_, rfl, _, pad_yes m.length (by omega) h, ?_⟩
  rintro _ h1 ⟨vp, rfl, o1, x1, f1⟩
  obtain ⟨ap, cp, ep⟩ := o1.r.len
  subst ep
  conv => whnf
  refine cw_seq (cw_region rfl ?_)
  conv => whnf
  refine ⟨_, rfl, #[.slice a0 m.length c0], 23, fun w => by kernel_rfl, ?_⟩
  intro h2 n2
  have z1 := x1.size; have z2 := n2.size
  have x2 := x1.trans n2.ext
  conv => whnf
  refine ⟨_, rfl, _, of_fn (D := fun k => k < h.size ∨ k = h1.size) (PD.one n2.blk (.inr rfl) (R0.old (Nat.le_refl _) x2.block x2.size (fun k hk => .inl hk))) (fun k hk => by omega) (by simp; omega), ?_⟩
  rintro _ h3 ⟨rfl, x23⟩
  simp only [List.flatten_cons, List.flatten_nil, List.append_nil]
  rw [Sha.digest_words]
  generalize hS : Sha.feed Sha.H0 (m ++ Sha.pad m.length) = S at *
  conv => whnf
  refine ⟨_, rfl, _, words_fn S h3, ?_⟩
  rintro _ h4 ⟨rfl, x34⟩
  have x4 := (x2.trans x23).trans x34
  have hN : m.length + (Sha.pad m.length).length < 18446744073709551616 := by omega
  have w2 := i64_eq ((m.length : Int) + ((Sha.pad m.length).length : Int)) (m.length + (Sha.pad m.length).length) (by omega) (by omega)
  have w3 := u64_in (IntKind.i64.wrap ((m.length : Int) + ((Sha.pad m.length).length : Int))) (m.length + (Sha.pad m.length).length) w2 (by omega)
  generalize hNe : m.length + (Sha.pad m.length).length = N at *
  conv => whnf
  rw [w3]
  refine ⟨_, rfl, (stateC S (.slice none 0 0) N).toArray, fun w => by kernel_rfl, ?_⟩
  conv => whnf
  refine ⟨_, rfl, _, load_fn (h := h4) (s := S) (b := .slice none 0 0) (l := []) (n := N) (OB.nil h4).r (by omega) (by simp; omega), ?_⟩
  rintro _ h5 ⟨q, v5, rfl, hq, H5, x45, f5⟩
  conv => whnf
  have x5 := x4.trans x45
  have z5 := x5.size
  have z4 := x4.size
  have l5 := fun k (hk : ob v5 k) => OwnS.lt H5.own hk
  refine cw_seq (cw_seq (cw_region rfl ?_))
  conv => whnf
  refine ⟨.bool false, fun w => by kernel_rfl, ?_⟩
  conv => whnf
  refine ⟨_, rfl, #[.slice a1 x.length c1], 23, fun w => by kernel_rfl, ?_⟩
  intro h6 n6
  have z6 := n6.size
  have x6 := x5.trans n6.ext
  conv => whnf
  have lq := H5.blk.lt
  refine ⟨_, rfl, _, write_fn (D := fun k => k < h.size ∨ k = h5.size) (H5.more n6.ext) (PD.one n6.blk (.inr rfl) (R1.old (Nat.le_refl _) x6.block x6.size (fun k hk => .inl hk)))
    (fun k hk => ⟨by omega, by omega, fun e => by have := f5 k e; have := l5 k e; omega⟩) (by decide) (by simp; omega) (by simp; omega), ?_⟩
  rintro _ h7 ⟨rfl, v7, H7, k7, f7⟩
  have z7 := k7.size
  have x7 : ExtH h h7 := ⟨by omega, fun k hk => by rw [k7.block k (by omega) (fun e => e.elim (by omega) (fun e => by have := f5 k e; omega)), x6.block k hk]⟩
  simp only [List.flatten_cons, List.flatten_nil, List.append_nil, List.nil_append] at H7
  refine cw_false rfl (cw_skip ?_)
  have hrl := Sha.rest_lt x
  refine cw_seq (cw_region rfl ?_)
  conv => whnf
  refine ⟨_, rfl, _, sum_fn H7 (by omega) (by omega), ?_⟩
  rintro _ h8 ⟨rfl, x78⟩
  have x8 := x7.trans x78
  have z8 := x8.size
  conv => whnf
  refine ⟨_, rfl, #[.slice a0 m.length c0, .slice ap (Sha.pad m.length).length cp, .slice a1 x.length c1], 23, fun w => by kernel_rfl, ?_⟩
  intro h9 n9
  have z9 := n9.size
  have x9 := x8.trans n9.ext
  have y23 := x23.size; have y34 := x34.size; have y45 := x45.size; have y78 := x78.size
  have y19 : ExtH h1 h9 := ⟨by omega, fun k hk => by
    rw [n9.block k (by omega), x78.block k (by omega), k7.block k (by omega) (fun e => e.elim (by omega) (fun e => by have := f5 k e; omega)), n6.block k (by omega), x45.block k (by omega), x34.block k (by omega), x23.block k (by omega), n2.block k hk]⟩
  have RP : RD (fun k => k < h1.size ∨ k = h8.size) h9 (.slice ap (Sha.pad m.length).length cp) (Sha.pad m.length) := ⟨o1.r.more y19, fun _ k hk => .inl (OwnS.lt o1 hk)⟩
  conv => whnf
  refine ⟨_, rfl, _, of_fn (D := fun k => k < h1.size ∨ k = h8.size) (PD.three n9.blk (.inr rfl) (R0.old (Nat.le_refl _) x9.block x9.size (fun k hk => .inl (by omega))) RP (R1.old (Nat.le_refl _) x9.block x9.size (fun k hk => .inl (by omega))))
    (fun k hk => by have := y19.size; omega) (by simp only [List.flatten_cons, List.flatten_nil, List.append_nil, List.length_append]; omega), ?_⟩
  rintro _ h10 ⟨rfl, x910⟩
  have hsum : Sha.digest [m, Sha.pad m.length, x].flatten = Sha.sum (Sha.feed S x) (Sha.rest x) (N + x.length) := by
    have e1 : [m, Sha.pad m.length, x].flatten = (m ++ Sha.pad m.length) ++ x := by simp
    have e2 : Sha.rest (m ++ Sha.pad m.length) = [] := List.eq_nil_of_length_eq_zero (by rw [Sha.rest_length, List.length_append]; omega)
    rw [e1]
    unfold Sha.digest
    rw [Sha.feed_app Sha.H0 (m ++ Sha.pad m.length) x, ← Sha.rest_app (m ++ Sha.pad m.length) x, e2, hS, List.nil_append, List.length_append, List.length_append, hNe]
  rw [hsum]
  conv => whnf
  refine ⟨.bool true, fun w => dig_same _ _ _ rfl w, ?_⟩
  conv => whnf
  refine ⟨_, rfl, _, awake_fn h10, ?_⟩
  rintro _ h11 ⟨rfl, x1011⟩
  exact cw_ret ⟨rfl, (x9.trans x910).trans x1011⟩
--ROW 'treadlelaw02.ShaExtends' 'shaExtends' 'bytes,bytes' 'upto' 'law v0 v1 l0 l1 W.heap R0 R1 (by omega) (by omega)'
theorem own : ownKnob Try.prog.godebug = none := by kernel_rfl
theorem laidOut : laidOutB Try.prog = true := by kernel_rfl
theorem contract (H : Type) (enc : TypeId × Value → H) (W : World) (base : Nat) (args : Array Value) (ds gs : List (DataW H)) (before : List MemPlace) (hk : Rows.uptoSmall H (ds ++ gs) = true)
    (hval0 : ∀ (j : Nat) t v, Try.f6.params[j]? = some t → args[j]? = some v → Value.okWide Try.prog W .any base t v)
    (hW : DataW.Whole enc Try.prog Try.f6.params.toList Rows.shaExtendsSpec.vars false W args.toList ds gs before) :
    Calls Try.prog 6 args W fun e W' => ∃ v, e = .returned v ∧ Rows.shaExtendsSpec.post enc Try.prog Try.f6 false true false false W args v W' := by
  have hval := hval0
  have hW' := hW
  obtain ⟨p, q, hA0, hV, rfl, hfz, hnd⟩ := hW
  have hA : DataW.TrodAll enc Try.prog W 0 (fun _ => true) true Try.f6.params.toList args.toList ds p := hA0
  rw [Try.params6] at hA hval
  obtain ⟨v0, vs0, d0, ds0, p0, q0, hargs, rfl, rfl, h0, r0⟩ := trodAll_cons hA
  obtain ⟨v1, vs1, d1, ds1, p1, q1, rfl, rfl, rfl, h1, r1⟩ := trodAll_cons r0
  obtain ⟨rfl, rfl, rfl⟩ := trodAll_nil r1
  obtain rfl : args = #[v0, v1] := by cases args; simp_all
  obtain ⟨rfl, rfl⟩ := trodVars_none hV
  have k0 := h0
  have lt0 : ∀ x ∈ p0, x.block < W.heap.size := by obtain ⟨m, hm⟩ := k0; exact DataW.trod_lt m _ _ _ hm
  obtain ⟨l0, R0, B0⟩ := open_bytes (hval 0 23 v0 rfl rfl) h0
  have k1 := h1
  have lt1 : ∀ x ∈ p1, x.block < W.heap.size := by obtain ⟨m, hm⟩ := k1; exact DataW.trod_lt m _ _ _ hm
  obtain ⟨l1, R1, B1⟩ := open_bytes (hval 1 23 v1 rfl rfl) h1
  have hb : Rows.uptoBulkAll [d0, d1] ≤ 1048576 := by simpa [Rows.uptoSmall] using hk
  simp only [Rows.uptoBulkAll] at hb
  clear hA0 hval0
  refine (Fx.calls (by kernel_rfl) (law v0 v1 l0 l1 W.heap R0 R1 (by omega) (by omega))).mono fun e W' ⟨he, bel⟩ => ?_
  subst he
  exact ⟨_, rfl, _, _, _, [], _, [], hW', trodAll_mk1 (shut_bool Try.underlying4 _), (trodAll_cons_mk (Below.trod laidOut (by kernel_rfl) (of_decide_eq_true (by kernel_rfl)) k0 bel lt0) (trodAll_cons_mk (Below.trod laidOut (by kernel_rfl) (of_decide_eq_true (by kernel_rfl)) k1 bel lt1) trodAll_mk0)), rfl, bel.frame _, fun h => by cases h⟩
theorem lifted (os : Os) (started : os.Started) (H : Type) (enc : TypeId × Value → H) (F : Stop.Interp) :
    ReturnsInHanded {} Try.checked os 6 .any ((Rows.OpenSpec.upto Rows.shaExtendsSpec).pre6 enc Try.prog Try.f6 Rows.shaExtendsUptoRow.domain false) (((Rows.OpenSpec.upto Rows.shaExtendsSpec).at F).post enc Try.prog Try.f6 false true false false) := by
  refine returnsInHanded_of_cond (C := Try.checked) (s := Rows.OpenSpec.upto Rows.shaExtendsSpec) (k := Rows.uptoSmall) rfl own started (by kernel_rfl) Try.func6
    (OpenSpec.witness (enc := enc) (C := Try.checked) (s := Rows.OpenSpec.upto Rows.shaExtendsSpec) (k := Rows.uptoSmall) rfl false ⟨#[], #[.slice none 0 0, .slice none 0 0], []⟩ 8 (by kernel_rfl) (by kernel_rfl) (by kernel_rfl)
      (x := ([.nil, .nil], [], [])) (by kernel_rfl) rfl (by kernel_rfl)) ?_
  intro W base args ds gs before hval hW _ hk _
  exact contract H enc W base args ds gs before hk hval hW
theorem over : Rows.shaExtendsUptoRow.holds Try.pinned (Rows.OpenSpec.upto Rows.shaExtendsSpec) :=
  OpenClaim.holds_of_cond 6 Try.f6 rfl rfl rfl rfl rfl rfl rfl ⟨rfl, rfl, rfl, rfl, rfl⟩ rfl rfl rfl rfl rfl (by kernel_rfl) Try.func6 (by kernel_rfl)
    (of_decide_eq_true (by kernel_rfl)) (by unfold Func.isWrapper; first | (rw [if_pos (by decide +kernel)]; kernel_rfl) | (rw [if_neg (by decide +kernel)]; exact ⟨rfl, rfl⟩))
    (fun os started H enc _ F => lifted os started H enc F)
theorem proved : Rows.ShaExtendsUptoSaid := over
end Go.Proofs.Ytnjimdjojinffaa.shaExtends
