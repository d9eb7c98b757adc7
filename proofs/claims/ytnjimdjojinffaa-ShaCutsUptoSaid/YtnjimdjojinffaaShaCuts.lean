/-
  ShaCuts: bytes have the same digest however they are cut: whatever bytes and cuts (of bulk at most 1048576), the law returns true, and what was there stays.
-/
import Derived.Test.YtnjimdjojinffaaShaTook
namespace Go.Proofs.Ytnjimdjojinffaa.shaCuts
open Go Vm
open Go.ChangeShapes Go.WideShapes Go.ChangeAt Go.RowKit
set_option maxRecDepth 100000
set_option linter.unusedVariables false
theorem RD_cut {D : Nat → Prop} {h : Heap} {a : Option Addr} {n c : Nat} {l : List UInt8} (r : RD D h (.slice a n c) l) (i j : Nat) (hi : i ≤ j) (hj : j ≤ l.length) {x y : Int} (ex : x = i) (ey : y = j) :
    (0 ≤ x ∧ x ≤ y ∧ y ≤ (c : Int)) ∧ ∃ A, (if c = x.toNat then a else a.map (·.add (x.toNat * 1))) = A ∧ RD D h (.slice A (y.toNat - x.toNat) (c - x.toNat)) ((l.drop i).take (j - i)) := by
  obtain ⟨h1, A, hA, hR⟩ := r.1.cut i j hi hj ex ey
  refine ⟨h1, A, hA, hR, fun hne b hb => ?_⟩
  have hl : l ≠ [] := fun e => hne (by subst e; simp)
  refine r.2 hl b ?_
  rcases r.1.cases with ⟨e, rfl⟩ | ⟨b0, o0, cap, e, hc, hm, hr⟩
  · exact absurd rfl hl
  · injection e with e e2 e3
    subst e
    obtain ⟨o, n', c', hb⟩ := hb
    injection hb with hb
    subst hb
    by_cases hcx : c = x.toNat
    · rw [if_pos hcx] at hA
      injection hA with hA
      injection hA with hA
      subst hA
      exact ⟨o0, _, _, rfl⟩
    · rw [if_neg hcx] at hA
      simp only [Option.map_some, add_none] at hA
      injection hA with hA
      injection hA with hA
      subst hA
      exact ⟨o0, _, _, rfl⟩
theorem min_int (ts : Array TypeId) (ty : TypeId) (x y : Int) (h : Heap) : RunsV Try.prog (Builtin.min_ ts ty #[.int .i64 x, .int .i64 y]) h fun v h' => v = .int .i64 (min x y) ∧ h' = h := by
  intro w hw
  refine ⟨.int .i64 (min x y), w, ?_, SameEnv.refl w, rfl, hw⟩
  have e : (min x y : Int) = if y < x then y else x := by rw [Int.min_def]; split <;> split <;> omega
  rw [e]
  simp [Builtin.min_, Builtin.min2]
theorem law (v0 v1 : Value) (all cuts : List UInt8) (h : Heap) (R0 : RD (fun k => k < h.size) h v0 all) (R1 : RD (fun k => k < h.size) h v1 cuts) (ha : all.length ≤ 1048576) (hc : cuts.length ≤ 1048576) :
    Fx Try.prog 4 #[v0, v1] h fun u h' => u = .bool true ∧ ExtH h h' := by
  refine fn_of 91 Try.func4 rfl (by kernel_rfl) rfl (by simp) ?_
  obtain ⟨a0, c0, e0⟩ := R0.1.len
  obtain ⟨a1, c1, e1⟩ := R1.1.len
  refine cw_seq (cw_region rfl ?_)
  refine cw_seq (cw_region rfl ?_)
  conv => whnf
  refine ⟨_, rfl, _, took_new h, ?_⟩
  rintro _ h1 ⟨p, rfl, hp, T1, x1⟩
  conv => whnf
  refine cw_seq (cw_seq (cw_region rfl ?_))
  conv => whnf
  refine ⟨.bool false, fun w => by kernel_rfl, ?_⟩
  refine cw_false rfl (cw_skip ?_)
  refine cw_seq (cw_region rfl ?_)
  subst e0 e1
  refine cw_seq (cw_seq (cw_region rfl ?_))
  conv => whnf
  refine cw_block ?_
  refine cw_loop (S := Nat × Nat × Value) (fun s => [(0, .slice a0 all.length c0), (1, .slice a1 cuts.length c1), (5, .pointer (some ⟨p, 0, none⟩)), (6, .int .i64 (s.2.1 : Int)), (7, .int .i64 (s.1 : Int))])
    (fun s h' => s.1 ≤ cuts.length ∧ s.2.1 ≤ all.length ∧ Took h' p s.2.2 (all.take s.2.1) ∧ ExtH h h' ∧ ∀ b, ob s.2.2 b → h.size ≤ b) (fun s => cuts.length - s.1) (0, 0, .slice none 0 0) ⟨rfl, rfl, rfl, rfl, rfl, trivial⟩
    ⟨Nat.zero_le _, Nat.zero_le _, T1, x1, fun b hb => (ob_nil hb).elim⟩ ?_
  clear T1 x1 h1
  rintro ⟨t, at_, v⟩ h1 ⟨ht, hat, T1, x1, f1⟩
  simp only [] at ht hat T1 f1
  refine cw_seq (cw_seq (cw_region rfl ?_))
  conv => whnf
  by_cases hlt : t < cuts.length
  · refine cw_yes rfl (by show (t : Int) < _; omega) (cw_skip ?_)
    obtain ⟨b1, o1, d1, e1, r1⟩ := (R1.1.more x1).get t hlt
    injection e1 with e1
    subst e1
    have hcb := u8_lt (cuts.getD t 0)
    generalize cuts.getD t 0 = cb at *
    have w1 := i64_eq (cb.toNat : Int) cb.toNat rfl (by omega)
    have w2 := i64_eq ((all.length : Int) - (at_ : Int)) (all.length - at_) (by omega) (by omega)
    obtain ⟨n, hn⟩ : ∃ n, n = min cb.toNat (all.length - at_) := ⟨_, rfl⟩
    refine cw_seq (cw_block (cw_seq (cw_region rfl ?_)))
    conv => whnf
    refine ⟨⟨by omega, by omega⟩, ?_⟩
    conv => whnf
    refine ⟨_, r1, ?_⟩
    conv => whnf
    rw [w1, w2]
    refine ⟨_, rfl, _, min_int #[3, 3] 3 _ _ _, ?_⟩
    rintro _ h2 ⟨rfl, e⟩
    subst h2
    rw [show min (cb.toNat : Int) ((all.length - at_ : Nat) : Int) = (n : Int) by omega]
    refine cw_seq (cw_region rfl ?_)
    conv => whnf
    refine ⟨by decide, ?_⟩
    have w3 : IntKind.i64.wrap ((n : Int).tdiv 2) = ((n / 2 : Nat) : Int) := by
      rw [Int.tdiv_eq_ediv_of_nonneg (by omega)]
      exact i64_eq _ _ (by omega) (by omega)
    conv => whnf
    rw [w3]
    refine cw_seq (cw_seq ?_)
    have Ra := R0.old (D' := fun k => k < h.size) (Nat.le_refl _) x1.block x1.size (fun k hk => hk)
    have k1 := i64_eq ((at_ : Int) + ((n / 2 : Nat) : Int)) (at_ + n / 2) (by omega) (by omega)
    have k2 := i64_eq ((at_ : Int) + (n : Int)) (at_ + n) (by omega) (by omega)
    obtain ⟨g1, A1, hA1, hR1⟩ := RD_cut Ra at_ (at_ + n / 2) (by omega) (by omega) rfl k1
    obtain ⟨g2, A2, hA2, hR2⟩ := RD_cut Ra (at_ + n / 2) (at_ + n) (by omega) (by omega) k1 k2
    refine cw_drawn (by kernel_rfl) 16 (fun i => i == 15) (List.range 16) (by kernel_rfl) rfl ?_
    conv => whnf
    refine ⟨g1, A1, hA1, ?_⟩
    conv => whnf
    refine ⟨g2, A2, hA2, ?_⟩
    conv => whnf
    intro h2 x2
    obtain ⟨V1, hV1⟩ : ∃ V1, V1 = Value.slice A1 ((IntKind.i64.wrap ((at_ : Int) + ((n / 2 : Nat) : Int))).toNat - ((at_ : Int)).toNat) (c0 - ((at_ : Int)).toNat) := ⟨_, rfl⟩
    obtain ⟨V2, hV2⟩ : ∃ V2, V2 = Value.slice A2 ((IntKind.i64.wrap ((at_ : Int) + (n : Int))).toNat - (IntKind.i64.wrap ((at_ : Int) + ((n / 2 : Nat) : Int))).toNat) (c0 - (IntKind.i64.wrap ((at_ : Int) + ((n / 2 : Nat) : Int))).toNat) := ⟨_, rfl⟩
    rw [← hV1] at hR1
    rw [← hV2] at hR2
    refine ⟨_, rfl, #[V1, .slice none 0 0, V2], 23, fun w => by subst hV1 hV2; kernel_rfl, ?_⟩
    intro h3 n3
    refine ⟨n3.ext.toU _, ?_⟩
    intro h4 x4 h5 x5
    have z1 := x1.size; have z2 := x2.size; have z3 := n3.size; have z4 := x4.size; have z5 := x5.size
    have x15 := ((x2.trans n3.ext).trans x4).trans x5
    have lp := T1.blk.lt
    have lv := fun k (hk : ob v k) => OwnS.lt T1.own hk
    have mv : ∀ {V : Value} {l : List UInt8}, RD (fun k => k < h.size) h1 V l → RD (fun k => k < h.size ∨ k = h2.size) h5 V l := fun R => by
      have := R.keep (x15.chg (S := fun _ => False)) (fun _ _ e => e)
      exact ⟨this.1, fun hne b hb => .inl (this.2 hne b hb)⟩
    have x05 := x1.trans x15
    refine ⟨_, rfl, _, took_write (D := fun k => k < h.size ∨ k = h2.size) (T1.more x15) (PD.three (x5.blk (x4.blk n3.blk)) (.inr rfl) (mv hR1) RD.nil (mv hR2))
      (fun k hk => ⟨by omega, by omega, fun e => by have := f1 k e; have := lv k e; omega⟩) (by simp; omega), ?_⟩
    rintro _ h6 ⟨rfl, v6, T6, c6, f6⟩
    have z6 := c6.size
    have x6 : ExtH h h6 := ⟨by omega, fun k hk => by rw [c6.block k (by omega) (fun e => e.elim (by omega) (fun e => by have := f1 k e; omega)), x05.block k hk]⟩
    have g6 : ∀ k, ob v6 k → h.size ≤ k := fun k hk => (f6 k hk).elim (fun e => f1 k e) (fun e => by omega)
    have htk : all.take at_ ++ [(all.drop at_).take (at_ + n / 2 - at_), [], (all.drop (at_ + n / 2)).take (at_ + n - (at_ + n / 2))].flatten = all.take (at_ + n) := by
      simp only [List.flatten_cons, List.flatten_nil, List.nil_append, List.append_nil]
      rw [← List.append_assoc, show at_ + n / 2 - at_ = n / 2 by omega, ← List.take_add, ← List.take_add, show at_ + n / 2 + (at_ + n - (at_ + n / 2)) = at_ + n by omega]
    rw [htk] at T6
    refine cw_false rfl (cw_skip ?_)
    refine cw_seq (cw_region rfl ?_)
    conv => whnf
    rw [k2]
    refine cw_seq ?_
    have Rb := R0.old (D' := fun k => k < h.size) (Nat.le_refl _) x6.block x6.size (fun k hk => hk)
    obtain ⟨g3, A3, hA3, hR3⟩ := RD_cut Rb 0 (at_ + n) (by omega) (by omega) (x := ((0 : Nat) : Int)) rfl (y := ((at_ + n : Nat) : Int)) rfl
    have hln : (all.take (at_ + n)).length = at_ + n := by rw [List.length_take]; omega
    refine cw_drawn (by kernel_rfl) 14 (fun i => i == 5 || i == 6 || i == 10) [0, 1, 2, 3, 4, 5, 6, 7, 8, 9, 11, 12, 10, 13] (by kernel_rfl) rfl ?_
    conv => whnf
    refine ⟨_, rfl, _, took_sum_q T6 (by rw [hln]; omega), ?_⟩
    conv => whnf
    refine ⟨g3, A3, hA3, ?_⟩
    conv => whnf
    intro h7 x7
    obtain ⟨V3, hV3⟩ : ∃ V3, V3 = Value.slice A3 (((at_ + n : Nat) : Int).toNat - (((0 : Nat) : Int)).toNat) (c0 - (((0 : Nat) : Int)).toNat) := ⟨_, rfl⟩
    rw [← hV3] at hR3
    refine ⟨_, rfl, #[V3], 23, fun w => by subst hV3; kernel_rfl, ?_⟩
    intro h8 n8
    refine ⟨n8.ext.toU _, ?_⟩
    intro h9 x9 h10 x10
    have z7 := x7.size; have z8 := n8.size; have z9 := x9.size; have z10 := x10.size
    have x610 := ((x7.trans n8.ext).trans x9).trans x10
    have mw : RD (fun k => k < h.size ∨ k = h7.size) h10 V3 ((all.drop 0).take (at_ + n - 0)) := by
      have := hR3.keep (x610.chg (S := fun _ => False)) (fun _ _ e => e)
      exact ⟨this.1, fun hne b hb => .inl (this.2 hne b hb)⟩
    refine ⟨_, rfl, _, of_fn (D := fun k => k < h.size ∨ k = h7.size) (PD.one (x10.blk (x9.blk n8.blk)) (.inr rfl) mw) (fun k hk => by omega) (by simp; omega), ?_⟩
    rintro _ h11 ⟨rfl, x11⟩
    refine ⟨x11.toU _, ?_⟩
    intro h12 x12
    simp only [List.flatten_cons, List.flatten_nil, List.append_nil, List.drop_zero, Nat.sub_zero]
    conv => whnf
    refine ⟨.bool false, fun w => dig_differ _ _ _ rfl w, ?_⟩
    conv => whnf
    intro h13 x13
    have x613 := ((x610.trans x11).trans x12).trans x13
    refine ⟨_, rfl, _, took_len (T6.more x613), ?_⟩
    rintro _ h14 ⟨rfl, e⟩
    subst h14
    refine ⟨(ExtH.refl _).toU _, ?_⟩
    intro h15 x15'
    conv => whnf
    intro h16 x16
    have w4 := u64_in ((at_ + n : Nat) : Int) (at_ + n) rfl (by omega)
    have x616 := (x613.trans x15').trans x16
    refine cw_bne_no rfl (by rw [w4, hln]) (cw_skip ?_)
    refine cw_region rfl ?_
    exact ⟨(t + 1, at_ + n, v6), ⟨rfl, rfl, rfl, rfl, slot_i64 _ _ (by simp only []; omega) (by simp only []; omega), trivial⟩, ⟨hlt, by simp only []; omega, T6.more x616, x6.trans x616, g6⟩, by show cuts.length - (t + 1) < cuts.length - t; omega⟩
  · refine cw_no rfl (by show ¬ (t : Int) < _; omega) (cw_exit ?_)
    have Ra := R0.old (D' := fun k => k < h.size) (Nat.le_refl _) x1.block x1.size (fun k hk => hk)
    obtain ⟨g1, A1, hA1, hR1⟩ := RD_cut Ra at_ all.length hat (Nat.le_refl _) (x := (at_ : Int)) rfl (y := (all.length : Int)) rfl
    obtain ⟨V1, hV1⟩ : ∃ V1, V1 = Value.slice A1 ((all.length : Int).toNat - ((at_ : Int)).toNat) (c0 - ((at_ : Int)).toNat) := ⟨_, rfl⟩
    rw [← hV1] at hR1
    refine cw_seq (cw_seq (cw_region rfl ?_))
    conv => whnf
    refine ⟨g1, A1, hA1, ?_⟩
    conv => whnf
    refine ⟨_, rfl, #[V1], 23, fun w => by subst hV1; kernel_rfl, ?_⟩
    intro h2 n2
    have z1 := x1.size; have z2 := n2.size
    have x2 := x1.trans n2.ext
    have lp := T1.blk.lt
    have lv := fun k (hk : ob v k) => OwnS.lt T1.own hk
    have mv : RD (fun k => k < h.size ∨ k = h1.size) h2 V1 ((all.drop at_).take (all.length - at_)) := by
      have := hR1.keep (n2.ext.chg (S := fun _ => False)) (fun _ _ e => e)
      exact ⟨this.1, fun hne b hb => .inl (this.2 hne b hb)⟩
    conv => whnf
    refine ⟨_, rfl, _, took_write (D := fun k => k < h.size ∨ k = h1.size) (T1.more n2.ext) (PD.one n2.blk (.inr rfl) mv)
      (fun k hk => ⟨by omega, by omega, fun e => by have := f1 k e; have := lv k e; omega⟩) (by simp; omega), ?_⟩
    rintro _ h3 ⟨rfl, v3, T3, c3, f3⟩
    have z3 := c3.size
    have x3 : ExtH h h3 := ⟨by omega, fun k hk => by rw [c3.block k (by omega) (fun e => e.elim (by omega) (fun e => by have := f1 k e; omega)), x2.block k hk]⟩
    have htk : all.take at_ ++ [(all.drop at_).take (all.length - at_)].flatten = all := by
      simp only [List.flatten_cons, List.flatten_nil, List.append_nil]
      rw [← List.take_add, List.take_of_length_le (by omega)]
    rw [htk] at T3
    refine cw_false rfl (cw_skip ?_)
    refine cw_seq (cw_region rfl ?_)
    obtain ⟨V0, hV0⟩ : ∃ V0, V0 = Value.slice a0 all.length c0 := ⟨_, rfl⟩
    conv => whnf
    refine ⟨_, rfl, _, took_sum T3 (by omega), ?_⟩
    rintro _ h4 ⟨rfl, x34⟩
    have x4 := x3.trans x34
    conv => whnf
    refine ⟨_, rfl, #[V0], 23, fun w => by subst hV0; kernel_rfl, ?_⟩
    intro h5 n5
    have x5 := x4.trans n5.ext
    have z4 := x4.size
    have z5 := n5.size
    rw [← hV0] at R0
    conv => whnf
    refine ⟨_, rfl, _, of_fn (D := fun k => k < h.size ∨ k = h4.size) (PD.one n5.blk (.inr rfl) (R0.old (Nat.le_refl _) x5.block x5.size (fun k hk => .inl hk))) (fun k hk => by omega) (by simp; omega), ?_⟩
    rintro _ h6 ⟨rfl, x56⟩
    simp only [List.flatten_cons, List.flatten_nil, List.append_nil]
    conv => whnf
    refine ⟨.bool true, fun w => dig_same _ _ _ rfl w, ?_⟩
    conv => whnf
    refine ⟨_, rfl, _, took_len (T3.more ((x34.trans n5.ext).trans x56)), ?_⟩
    rintro _ h7 ⟨rfl, e⟩
    subst h7
    have w4 := u64_in (all.length : Int) all.length rfl (by omega)
    refine ops_g (b := true) rfl rfl rfl rfl (fun k hk => hk) ?_
    refine ops_g (b := true) rfl rfl rfl rfl (fun k hk => hk) ?_
    refine ops_g (b := true) rfl rfl rfl rfl (fun k hk => hk) ?_
    refine ops_g (v := .bool true) (b := true) rfl rfl rfl rfl (fun k hk => ?_) ?_
    · show k (.bool ((all.length : Int) == IntKind.u64.wrap (all.length : Int)))
      rw [w4, beq_self_eq_true]
      exact hk
    conv => whnf
    refine ⟨_, rfl, _, awake_fn h6, ?_⟩
    rintro _ h7 ⟨rfl, x67⟩
    exact cw_ret ⟨rfl, (x5.trans x56).trans x67⟩
--ROW 'treadlelaw02.ShaCuts' 'shaCuts' 'bytes,bytes' 'upto' 'law v0 v1 l0 l1 W.heap R0 R1 (by omega) (by omega)'
theorem own : ownKnob Try.prog.godebug = none := by kernel_rfl
theorem laidOut : laidOutB Try.prog = true := by kernel_rfl
theorem contract (H : Type) (enc : TypeId × Value → H) (W : World) (base : Nat) (args : Array Value) (ds gs : List (DataW H)) (before : List MemPlace) (hk : Rows.uptoSmall H (ds ++ gs) = true)
    (hval0 : ∀ (j : Nat) t v, Try.f4.params[j]? = some t → args[j]? = some v → Value.okWide Try.prog W .any base t v)
    (hW : DataW.Whole enc Try.prog Try.f4.params.toList Rows.shaCutsSpec.vars false W args.toList ds gs before) :
    Calls Try.prog 4 args W fun e W' => ∃ v, e = .returned v ∧ Rows.shaCutsSpec.post enc Try.prog Try.f4 false true false false W args v W' := by
  have hval := hval0
  have hW' := hW
  obtain ⟨p, q, hA0, hV, rfl, hfz, hnd⟩ := hW
  have hA : DataW.TrodAll enc Try.prog W 0 (fun _ => true) true Try.f4.params.toList args.toList ds p := hA0
  rw [Try.params4] at hA hval
  obtain ⟨v0, vs0, d0, ds0, p0, q0, hargs, rfl, rfl, h0, r0⟩ := trodAll_cons hA
  obtain ⟨v1, vs1, d1, ds1, p1, q1, rfl, rfl, rfl, h1, r1⟩ := trodAll_cons r0
  obtain ⟨rfl, rfl, rfl⟩ := trodAll_nil r1
  obtain rfl : args = #[v0, v1] := by cases args; simp_all
  obtain ⟨rfl, rfl⟩ := trodVars_none hV
  have k0 := h0
  have lt0 : ∀ x ∈ p0, x.block < W.heap.size := by obtain ⟨m, hm⟩ := k0; exact DataW.trod_lt m _ _ _ hm
  obtain ⟨l0, R0, B0⟩ := open_bytes (hval 0 23 v0 rfl rfl) h0
  have k1 := h1
  have lt1 : ∀ x ∈ p1, x.block < W.heap.size := by obtain ⟨m, hm⟩ := k1; exact DataW.trod_lt m _ _ _ hm
  obtain ⟨l1, R1, B1⟩ := open_bytes (hval 1 23 v1 rfl rfl) h1
  have hb : Rows.uptoBulkAll [d0, d1] ≤ 1048576 := by simpa [Rows.uptoSmall] using hk
  simp only [Rows.uptoBulkAll] at hb
  clear hA0 hval0
  refine (Fx.calls (by kernel_rfl) (law v0 v1 l0 l1 W.heap R0 R1 (by omega) (by omega))).mono fun e W' ⟨he, bel⟩ => ?_
  subst he
  exact ⟨_, rfl, _, _, _, [], _, [], hW', trodAll_mk1 (shut_bool Try.underlying4 _), (trodAll_cons_mk (Below.trod laidOut (by kernel_rfl) (of_decide_eq_true (by kernel_rfl)) k0 bel lt0) (trodAll_cons_mk (Below.trod laidOut (by kernel_rfl) (of_decide_eq_true (by kernel_rfl)) k1 bel lt1) trodAll_mk0)), rfl, bel.frame _, fun h => by cases h⟩
theorem lifted (os : Os) (started : os.Started) (H : Type) (enc : TypeId × Value → H) (F : Stop.Interp) :
    ReturnsInHanded {} Try.checked os 4 .any ((Rows.OpenSpec.upto Rows.shaCutsSpec).pre6 enc Try.prog Try.f4 Rows.shaCutsUptoRow.domain false) (((Rows.OpenSpec.upto Rows.shaCutsSpec).at F).post enc Try.prog Try.f4 false true false false) := by
  refine returnsInHanded_of_cond (C := Try.checked) (s := Rows.OpenSpec.upto Rows.shaCutsSpec) (k := Rows.uptoSmall) rfl own started (by kernel_rfl) Try.func4
    (OpenSpec.witness (enc := enc) (C := Try.checked) (s := Rows.OpenSpec.upto Rows.shaCutsSpec) (k := Rows.uptoSmall) rfl false ⟨#[], #[.slice none 0 0, .slice none 0 0], []⟩ 8 (by kernel_rfl) (by kernel_rfl) (by kernel_rfl)
      (x := ([.nil, .nil], [], [])) (by kernel_rfl) rfl (by kernel_rfl)) ?_
  intro W base args ds gs before hval hW _ hk _
  exact contract H enc W base args ds gs before hk hval hW
theorem over : Rows.shaCutsUptoRow.holds Try.pinned (Rows.OpenSpec.upto Rows.shaCutsSpec) :=
  OpenClaim.holds_of_cond 4 Try.f4 rfl rfl rfl rfl rfl rfl rfl ⟨rfl, rfl, rfl, rfl, rfl⟩ rfl rfl rfl rfl rfl (by kernel_rfl) Try.func4 (by kernel_rfl)
    (of_decide_eq_true (by kernel_rfl)) (by unfold Func.isWrapper; first | (rw [if_pos (by decide +kernel)]; kernel_rfl) | (rw [if_neg (by decide +kernel)]; exact ⟨rfl, rfl⟩))
    (fun os started H enc _ F => lifted os started H enc F)
theorem proved : Rows.ShaCutsUptoSaid := over
end Go.Proofs.Ytnjimdjojinffaa.shaCuts
