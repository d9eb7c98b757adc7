/-
  ShaClones: two digests under way know nothing of one another: whatever bytes (of bulk at most 1048576), the law returns true, and what was there stays.
-/
import Derived.Test.YtnjimdjojinffaaShaTook
namespace Go.Proofs.Ytnjimdjojinffaa.shaClones
open Go Vm
open Go.ChangeShapes Go.WideShapes Go.ChangeAt Go.RowKit
set_option maxRecDepth 100000
set_option linter.unusedVariables false
theorem law (v0 v1 v2 : Value) (m a b : List UInt8) (h : Heap) (R0 : RD (fun k => k < h.size) h v0 m) (R1 : RD (fun k => k < h.size) h v1 a) (R2 : RD (fun k => k < h.size) h v2 b)
    (hm : m.length ≤ 1048576) (ha : a.length ≤ 1048576) (hb : b.length ≤ 1048576) :
    Fx Try.prog 5 #[v0, v1, v2] h fun u h' => u = .bool true ∧ ExtH h h' := by
  refine fn_of 76 Try.func5 rfl (by kernel_rfl) rfl (by simp) ?_
  obtain ⟨a0, c0, e0⟩ := R0.1.len
  obtain ⟨a1, c1, e1⟩ := R1.1.len
  obtain ⟨a2, c2, e2⟩ := R2.1.len
  refine cw_seq (cw_region rfl ?_)
  refine cw_seq (cw_region rfl ?_)
  conv => whnf
  refine ⟨_, rfl, _, took_new h, ?_⟩
  rintro _ h1 ⟨p, rfl, hp, T1, x1⟩
  conv => whnf
  refine cw_seq (cw_seq (cw_region rfl ?_))
  subst e0 e1 e2
  generalize hv0 : Value.slice a0 m.length c0 = v0 at *
  generalize hv1 : Value.slice a1 a.length c1 = v1 at *
  generalize hv2 : Value.slice a2 b.length c2 = v2 at *
  conv => whnf
  refine ⟨.bool false, fun w => by kernel_rfl, ?_⟩
  conv => whnf
  refine ⟨_, rfl, #[v0], 23, fun w => by subst hv0; kernel_rfl, ?_⟩
  intro h2 n2
  have z1 := x1.size; have z2 := n2.size
  have x2 := x1.trans n2.ext
  have hp1 := T1.blk.lt
  conv => whnf
  refine ⟨_, rfl, _, took_write (T1.more n2.ext) (PD.one (D := fun k => k < h.size ∨ k = h1.size) n2.blk (.inr rfl) (R0.old (Nat.le_refl _) x2.block x2.size (fun k hk => .inl hk)))
    (fun k hk => ⟨by omega, by omega, ob_nil⟩) (by simp; omega), ?_⟩
  rintro _ h3 ⟨rfl, w3, T3, k3, f3⟩
  have z3 := k3.size
  have x3 : ExtH h h3 := ⟨by omega, fun k hk => by rw [k3.block k (by omega) (fun e => e.elim (by omega) ob_nil), x2.block k hk]⟩
  have g3 : ∀ k, ob w3 k → h2.size ≤ k := fun k hk => (f3 k hk).elim (fun e => (ob_nil e).elim) id
  simp only [List.flatten_cons, List.flatten_nil, List.append_nil, List.nil_append] at T3
  refine cw_false rfl (cw_skip ?_)
  refine cw_seq (cw_region rfl ?_)
  conv => whnf
  refine ⟨_, rfl, _, took_clone T3, ?_⟩
  rintro _ h4 ⟨q, w4, rfl, hq, U4, x34, g4⟩
  have z4 := x34.size
  have x4 := x3.trans x34
  have T4 := T3.more x34
  have l3 := fun k (hk : ob w3 k) => OwnS.lt T3.own hk
  have lq := U4.blk.lt
  conv => whnf
  refine cw_seq (cw_seq (cw_region rfl ?_))
  conv => whnf
  refine ⟨.bool false, fun w => by kernel_rfl, ?_⟩
  conv => whnf
  refine ⟨_, rfl, #[v1], 23, fun w => by subst hv1; kernel_rfl, ?_⟩
  intro h5 n5
  have z5 := n5.size
  have x5 := x4.trans n5.ext
  conv => whnf
  refine ⟨_, rfl, _, took_write (T4.more n5.ext) (PD.one (D := fun k => k < h.size ∨ k = h4.size) n5.blk (.inr rfl) (R1.old (Nat.le_refl _) x5.block x5.size (fun k hk => .inl hk)))
    (fun k hk => ⟨by omega, by omega, fun e => by have := g3 k e; have := l3 k e; omega⟩) (by simp; omega), ?_⟩
  rintro _ h6 ⟨rfl, w6, T6, k6, f6⟩
  have z6 := k6.size
  have x6 : ExtH h h6 := ⟨by omega, fun k hk => by rw [k6.block k (by omega) (fun e => e.elim (by omega) (fun e => by have := g3 k e; omega)), x5.block k hk]⟩
  have U6 : Took h6 q w4 m := (U4.more n5.ext).keep k6 (fun e => e.elim (by omega) (fun e => by have := l3 q e; omega)) (fun k hk e => e.elim (fun e => by have := g4 k hk; omega) (fun e => by have := g4 k hk; have := l3 k e; omega))
  have g6 : ∀ k, ob w6 k → h2.size ≤ k := fun k hk => (f6 k hk).elim (fun e => g3 k e) (fun e => by omega)
  have l4 := fun k (hk : ob w4 k) => OwnS.lt U4.own hk
  have s6 : ∀ k, ob w4 k → ¬ ob w6 k := fun k hk e => by
    have a := g4 k hk; have b := l4 k hk
    rcases f6 k e with e | e
    · have := l3 k e; omega
    · omega
  simp only [List.flatten_cons, List.flatten_nil, List.append_nil] at T6
  conv => whnf
  refine ⟨_, rfl, #[v2], 23, fun w => by subst hv2; kernel_rfl, ?_⟩
  intro h7 n7
  have z7 := n7.size
  have x7 := x6.trans n7.ext
  conv => whnf
  refine ⟨_, rfl, _, took_write (U6.more n7.ext) (PD.one (D := fun k => k < h.size ∨ k = h6.size) n7.blk (.inr rfl) (R2.old (Nat.le_refl _) x7.block x7.size (fun k hk => .inl hk)))
    (fun k hk => ⟨by omega, by omega, fun e => by have := g4 k e; have := l4 k e; omega⟩) (by simp; omega), ?_⟩
  rintro _ h8 ⟨rfl, w8, U8, k8, f8⟩
  have z8 := k8.size
  have x8 : ExtH h h8 := ⟨by omega, fun k hk => by rw [k8.block k (by omega) (fun e => e.elim (by omega) (fun e => by have := g4 k e; omega)), x7.block k hk]⟩
  have l6 := fun k (hk : ob w6 k) => OwnS.lt T6.own hk
  have nq6 : ¬ ob w6 q := OwnS.ne T6.own U6.blk (by decide)
  have np4 : ¬ ob w4 p := OwnS.ne U6.own T6.blk (by decide)
  have T8 : Took h8 p w6 (m ++ a) := (T6.more n7.ext).keep k8 (fun e => e.elim (by omega) np4) (fun k hk e => e.elim (fun e => nq6 (e ▸ hk)) (fun e => s6 k e hk))
  simp only [List.flatten_cons, List.flatten_nil, List.append_nil] at U8
  refine cw_false rfl (cw_skip ?_)
  have lma : (m ++ a).length ≤ 100000000000000 := by simp; omega
  have lmb : (m ++ b).length ≤ 100000000000000 := by simp; omega
  -- the sums
  refine cw_seq (cw_seq (cw_region rfl ?_))
  conv => whnf
  refine ⟨_, rfl, _, took_sum T8 lma, ?_⟩
  rintro _ h9 ⟨rfl, x89⟩
  have z9 := x89.size
  have x9 := x8.trans x89
  conv => whnf
  refine ⟨_, rfl, #[v0, v1], 23, fun w => by subst hv0 hv1; kernel_rfl, ?_⟩
  intro h10 n10
  have z10 := n10.size
  have x10 := x9.trans n10.ext
  conv => whnf
  refine ⟨_, rfl, _, of_fn (D := fun k => k < h.size ∨ k = h9.size) (PD.two n10.blk (.inr rfl) (R0.old (Nat.le_refl _) x10.block x10.size (fun k hk => .inl hk)) (R1.old (Nat.le_refl _) x10.block x10.size (fun k hk => .inl hk)))
    (fun k hk => by omega) (by simp; omega), ?_⟩
  rintro _ h11 ⟨rfl, x1011⟩
  have z11 := x1011.size
  have x11 := x10.trans x1011
  simp only [List.flatten_cons, List.flatten_nil, List.append_nil]
  conv => whnf
  refine ⟨.bool false, fun w => dig_differ _ _ _ rfl w, ?_⟩
  conv => whnf
  have U11 := ((U8.more x89).more n10.ext).more x1011
  refine ⟨_, rfl, _, took_sum U11 lmb, ?_⟩
  rintro _ h12 ⟨rfl, x1112⟩
  have z12 := x1112.size
  have x12 := x11.trans x1112
  conv => whnf
  refine ⟨_, rfl, #[v0, v2], 23, fun w => by subst hv0 hv2; kernel_rfl, ?_⟩
  intro h13 n13
  have z13 := n13.size
  have x13 := x12.trans n13.ext
  conv => whnf
  refine ⟨_, rfl, _, of_fn (D := fun k => k < h.size ∨ k = h12.size) (PD.two n13.blk (.inr rfl) (R0.old (Nat.le_refl _) x13.block x13.size (fun k hk => .inl hk)) (R2.old (Nat.le_refl _) x13.block x13.size (fun k hk => .inl hk)))
    (fun k hk => by omega) (by simp; omega), ?_⟩
  rintro _ h14 ⟨rfl, x1314⟩
  have z14 := x1314.size
  have x14 := x13.trans x1314
  simp only [List.flatten_cons, List.flatten_nil, List.append_nil]
  conv => whnf
  refine ⟨.bool false, fun w => dig_differ _ _ _ rfl w, ?_⟩
  refine cw_false rfl (cw_skip ?_)
  have T14 := (((((T8.more x89).more n10.ext).more x1011).more x1112).more n13.ext).more x1314
  have U14 := ((U11.more x1112).more n13.ext).more x1314
  -- one is begun anew
  refine cw_seq (cw_region rfl ?_)
  conv => whnf
  refine ⟨_, rfl, _, took_reset T14, ?_⟩
  rintro _ h15 ⟨T15, k15⟩
  have z15 := k15.size
  have x15 : ExtH h h15 := ⟨by omega, fun k hk => by rw [k15.block k (by omega) (by omega), x14.block k hk]⟩
  have np8 : ¬ ob w8 p := OwnS.ne U14.own T14.blk (by decide)
  have U15 : Took h15 q w8 (m ++ b) := U14.keep k15 (by omega) (fun k hk e => np8 (e ▸ hk))
  refine cw_seq (cw_region rfl ?_)
  conv => whnf
  refine ⟨_, rfl, _, took_sum T15 (by decide), ?_⟩
  rintro _ h16 ⟨rfl, x1516⟩
  conv => whnf
  refine ⟨_, rfl, _, of_fn (D := fun _ => False) PD.empty (fun _ e => e.elim) (by decide), ?_⟩
  rintro _ h17 ⟨rfl, x1617⟩
  conv => whnf
  refine ⟨.bool true, fun w => dig_same _ _ _ rfl w, ?_⟩
  conv => whnf
  have x1517 := x1516.trans x1617
  refine ⟨_, rfl, _, took_len (T15.more x1517), ?_⟩
  rintro _ h18 ⟨rfl, e18⟩
  subst h18
  conv => whnf
  have x17 := x15.trans x1517
  have z17 := x17.size
  refine ⟨_, rfl, _, took_sum (U15.more x1517) lmb, ?_⟩
  rintro _ h19 ⟨rfl, x1719⟩
  have x19 := x17.trans x1719
  conv => whnf
  refine ⟨_, rfl, #[v0, v2], 23, fun w => by subst hv0 hv2; kernel_rfl, ?_⟩
  intro h20 n20
  have x20 := x19.trans n20.ext
  have z19 := x19.size
  have z20 := n20.size
  conv => whnf
  refine ⟨_, rfl, _, of_fn (D := fun k => k < h.size ∨ k = h19.size) (PD.two n20.blk (.inr rfl) (R0.old (Nat.le_refl _) x20.block x20.size (fun k hk => .inl hk)) (R2.old (Nat.le_refl _) x20.block x20.size (fun k hk => .inl hk)))
    (fun k hk => by omega) (by simp; omega), ?_⟩
  rintro _ h21 ⟨rfl, x2021⟩
  simp only [List.flatten_cons, List.flatten_nil, List.append_nil]
  conv => whnf
  refine ⟨.bool true, fun w => dig_same _ _ _ rfl w, ?_⟩
  conv => whnf
  refine ⟨_, rfl, _, awake_fn h21, ?_⟩
  rintro _ h22 ⟨rfl, x2122⟩
  exact cw_ret ⟨rfl, (x20.trans x2021).trans x2122⟩
--ROW 'treadlelaw02.ShaClones' 'shaClones' 'bytes,bytes,bytes' 'upto' 'law v0 v1 v2 l0 l1 l2 W.heap R0 R1 R2 (by omega) (by omega) (by omega)'
theorem own : ownKnob Try.prog.godebug = none := by kernel_rfl
theorem laidOut : laidOutB Try.prog = true := by kernel_rfl
theorem contract (H : Type) (enc : TypeId × Value → H) (W : World) (base : Nat) (args : Array Value) (ds gs : List (DataW H)) (before : List MemPlace) (hk : Rows.uptoSmall H (ds ++ gs) = true)
    (hval0 : ∀ (j : Nat) t v, Try.f5.params[j]? = some t → args[j]? = some v → Value.okWide Try.prog W .any base t v)
    (hW : DataW.Whole enc Try.prog Try.f5.params.toList Rows.shaClonesSpec.vars false W args.toList ds gs before) :
    Calls Try.prog 5 args W fun e W' => ∃ v, e = .returned v ∧ Rows.shaClonesSpec.post enc Try.prog Try.f5 false true false false W args v W' := by
  have hval := hval0
  have hW' := hW
  obtain ⟨p, q, hA0, hV, rfl, hfz, hnd⟩ := hW
  have hA : DataW.TrodAll enc Try.prog W 0 (fun _ => true) true Try.f5.params.toList args.toList ds p := hA0
  rw [Try.params5] at hA hval
  obtain ⟨v0, vs0, d0, ds0, p0, q0, hargs, rfl, rfl, h0, r0⟩ := trodAll_cons hA
  obtain ⟨v1, vs1, d1, ds1, p1, q1, rfl, rfl, rfl, h1, r1⟩ := trodAll_cons r0
  obtain ⟨v2, vs2, d2, ds2, p2, q2, rfl, rfl, rfl, h2, r2⟩ := trodAll_cons r1
  obtain ⟨rfl, rfl, rfl⟩ := trodAll_nil r2
  obtain rfl : args = #[v0, v1, v2] := by cases args; simp_all
  obtain ⟨rfl, rfl⟩ := trodVars_none hV
  have k0 := h0
  have lt0 : ∀ x ∈ p0, x.block < W.heap.size := by obtain ⟨m, hm⟩ := k0; exact DataW.trod_lt m _ _ _ hm
  obtain ⟨l0, R0, B0⟩ := open_bytes (hval 0 23 v0 rfl rfl) h0
  have k1 := h1
  have lt1 : ∀ x ∈ p1, x.block < W.heap.size := by obtain ⟨m, hm⟩ := k1; exact DataW.trod_lt m _ _ _ hm
  obtain ⟨l1, R1, B1⟩ := open_bytes (hval 1 23 v1 rfl rfl) h1
  have k2 := h2
  have lt2 : ∀ x ∈ p2, x.block < W.heap.size := by obtain ⟨m, hm⟩ := k2; exact DataW.trod_lt m _ _ _ hm
  obtain ⟨l2, R2, B2⟩ := open_bytes (hval 2 23 v2 rfl rfl) h2
  have hb : Rows.uptoBulkAll [d0, d1, d2] ≤ 1048576 := by simpa [Rows.uptoSmall] using hk
  simp only [Rows.uptoBulkAll] at hb
  clear hA0 hval0
  refine (Fx.calls (by kernel_rfl) (law v0 v1 v2 l0 l1 l2 W.heap R0 R1 R2 (by omega) (by omega) (by omega))).mono fun e W' ⟨he, bel⟩ => ?_
  subst he
  exact ⟨_, rfl, _, _, _, [], _, [], hW', trodAll_mk1 (shut_bool Try.underlying4 _), (trodAll_cons_mk (Below.trod laidOut (by kernel_rfl) (of_decide_eq_true (by kernel_rfl)) k0 bel lt0) (trodAll_cons_mk (Below.trod laidOut (by kernel_rfl) (of_decide_eq_true (by kernel_rfl)) k1 bel lt1) (trodAll_cons_mk (Below.trod laidOut (by kernel_rfl) (of_decide_eq_true (by kernel_rfl)) k2 bel lt2) trodAll_mk0))), rfl, bel.frame _, fun h => by cases h⟩
theorem lifted (os : Os) (started : os.Started) (H : Type) (enc : TypeId × Value → H) (F : Stop.Interp) :
    ReturnsInHanded {} Try.checked os 5 .any ((Rows.OpenSpec.upto Rows.shaClonesSpec).pre6 enc Try.prog Try.f5 Rows.shaClonesUptoRow.domain false) (((Rows.OpenSpec.upto Rows.shaClonesSpec).at F).post enc Try.prog Try.f5 false true false false) := by
  refine returnsInHanded_of_cond (C := Try.checked) (s := Rows.OpenSpec.upto Rows.shaClonesSpec) (k := Rows.uptoSmall) rfl own started (by kernel_rfl) Try.func5
    (OpenSpec.witness (enc := enc) (C := Try.checked) (s := Rows.OpenSpec.upto Rows.shaClonesSpec) (k := Rows.uptoSmall) rfl false ⟨#[], #[.slice none 0 0, .slice none 0 0, .slice none 0 0], []⟩ 8 (by kernel_rfl) (by kernel_rfl) (by kernel_rfl)
      (x := ([.nil, .nil, .nil], [], [])) (by kernel_rfl) rfl (by kernel_rfl)) ?_
  intro W base args ds gs before hval hW _ hk _
  exact contract H enc W base args ds gs before hk hval hW
theorem over : Rows.shaClonesUptoRow.holds Try.pinned (Rows.OpenSpec.upto Rows.shaClonesSpec) :=
  OpenClaim.holds_of_cond 5 Try.f5 rfl rfl rfl rfl rfl rfl rfl ⟨rfl, rfl, rfl, rfl, rfl⟩ rfl rfl rfl rfl rfl (by kernel_rfl) Try.func5 (by kernel_rfl)
    (of_decide_eq_true (by kernel_rfl)) (by unfold Func.isWrapper; first | (rw [if_pos (by decide +kernel)]; kernel_rfl) | (rw [if_neg (by decide +kernel)]; exact ⟨rfl, rfl⟩))
    (fun os started H enc _ F => lifted os started H enc F)
theorem proved : Rows.ShaClonesUptoSaid := over
end Go.Proofs.Ytnjimdjojinffaa.shaClones
