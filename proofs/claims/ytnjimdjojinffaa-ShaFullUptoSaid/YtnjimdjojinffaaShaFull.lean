/-
  ShaFull: no more bytes are taken than SHA-256 can count: whatever parts (of bulk at most 1048576), the law returns true, and what was there stays.
-/
import Derived.Test.YtnjimdjojinffaaShaLong
import Derived.Test.YtnjimdjojinffaaVmHead
namespace Go.Proofs.Ytnjimdjojinffaa.shaFull
open Go Vm
open Go.ChangeShapes Go.WideShapes Go.ChangeAt Go.RowKit
set_option maxRecDepth 100000
set_option linter.unusedVariables false
theorem law (n0 : Nat) (v1 : Value) (ms : List (List UInt8)) (pv : List Value) (h : Heap) (hn0 : n0 < 256) (R1 : PD (fun k => k < h.size) h v1 ms pv) (hms : ms.flatten.length + ms.length ≤ 1048576) :
    Fx Try.prog 8 #[.int .u8 (n0 : Int), v1] h fun u h' => u = .bool true ∧ ExtH h h' := by
  refine fn_of 93 Try.func8 rfl (by kernel_rfl) rfl (by simp) ?_
  refine cw_seq (cw_region rfl ?_)
  obtain ⟨N, hN⟩ : ∃ N, N = 2305843009213693951 - n0 := ⟨_, rfl⟩
  have w0 := u64_in ((n0 : Nat) : Int) n0 rfl (by omega)
  have w1 := u64_in ((2305843009213693951 : Int) - (n0 : Int)) N (by omega) (by omega)
  obtain ⟨k, hk⟩ : ∃ k, k = N % 64 := ⟨_, rfl⟩
  have w2 : ((N : Nat) : Int).tmod 64 = ((k : Nat) : Int) := by rw [Int.tmod_eq_emod_of_nonneg (by omega)]; omega
  refine cw_seq (cw_region rfl ?_)
  conv => whnf
  rw [w0, w1]
  refine ⟨_, rfl, (stateC ⟨0, 0, 0, 0, 0, 0, 0, 0⟩ (.slice none 0 0) N).toArray, fun w => by kernel_rfl, ?_⟩
  conv => whnf
  intro h1 n1
  conv => whnf
  refine ⟨_, _, n1.blk, ⟨(show (10 : Nat) ≤ 10 by decide), by rfl, by simp [stateC, u32v, Value.oneCell']⟩, ?_⟩
  intro h2 w2'
  replace w2' := w2'.cast (l' := stateC ⟨0, 0, 0, 0, 0, 0, 0, 0⟩ (.slice none 0 0) N) (by rfl)
  refine cw_seq (cw_region rfl ?_)
  conv => whnf
  refine ⟨_, w2'.new.rd (o := 9) rfl, ?_⟩
  conv => whnf
  refine ⟨by decide, ?_⟩
  conv => whnf
  rw [w2, Int.toNat_natCast]
  refine ⟨⟨by omega, by omega, by show ((1 : Nat) : Int) * (k : Int) ≤ _; omega, by omega⟩, ?_⟩
  intro h3 n3
  have y3 : Blk h3 h2.size (List.replicate k (u8v 0)) 5 := by
    have := made8 (n := k * 1) n3.blk
    rwa [Nat.mul_one] at this
  have z1 := n1.size; have z2 := w2'.size; have z3 := n3.size
  conv => whnf
  refine ⟨_, _, n3.ext.blk w2'.new, (show (8 : Nat) < 10 by decide), ?_⟩
  intro h4 w4
  replace w4 := w4.cast (l' := stateC ⟨0, 0, 0, 0, 0, 0, 0, 0⟩ (.slice (some ⟨h2.size, 0, none⟩) k k) N) rfl
  have z4 := w4.size
  have hR4 : RB h4 (.slice (some ⟨h2.size, 0, none⟩) k k) (List.replicate k 0) := by
    have y4 := w4.blk y3 (by omega)
    exact (RD.at (D := fun _ => True) (by rw [List.map_replicate]; exact y4.rdN 0 _ (by simp)) (by simp) (by simp only [maxLen]; omega) trivial).1
  have x4 : ExtH h h4 := ⟨by omega, fun b hb => by rw [w4.block b (by omega), n3.block b (by omega), w2'.block b (by omega), n1.block b (by omega)]⟩
  have Y4 := w4.new
  generalize hB : Value.slice (some ⟨h2.size, 0, none⟩) k k = B at *
  refine cw_seq (cw_region rfl ?_)
  conv => whnf
  refine ⟨_, by rfl, Y4.all, ?_⟩
  conv => whnf
  refine ⟨_, rfl, _, load_fn hR4 (by omega) (by simp; omega), ?_⟩
  rintro _ h5 ⟨q, v5, rfl, hq, H5, x5, f5⟩
  have z5 := x5.size
  refine cw_seq (cw_seq (cw_region rfl ?_))
  conv => whnf
  refine ⟨.bool false, fun w => by kernel_rfl, ?_⟩
  refine cw_false rfl (cw_skip ?_)
  obtain ⟨l0, hl0⟩ : ∃ l0, l0 = List.replicate k (0 : UInt8) := ⟨_, rfl⟩
  have hl0k : l0.length = k := by rw [hl0]; simp
  rw [← hl0] at H5 hR4
  generalize (⟨0, 0, 0, 0, 0, 0, 0, 0⟩ : Sha.S8) = s at *
  clear n1 w2' n3 y3 w4
  refine cw_seq (cw_region rfl ?_)
  conv => whnf
  refine ⟨_, rfl, _, sum_fn H5 (by omega) (by omega), ?_⟩
  rintro _ h6 ⟨rfl, x6⟩
  have z6 := x6.size
  conv => whnf
  intro h7 n7
  have z7 := n7.size
  conv => whnf
  have y7 : Blk h7 h6.size (List.replicate 32 (u8v 0)) 37 := n7.blk
  refine ⟨_, _, y7, ⟨(show (32 : Nat) ≤ 32 by decide), by rfl, by simp [u8v, Value.oneCell']⟩, ?_⟩
  intro h8 w8
  replace w8 := w8.cast (l' := (Sha.sum s l0 N).map u8v) (by simp [splice, Sha.sum_length])
  have z8 := w8.size
  have y8 := w8.new
  have x58 : ExtH h5 h8 := ⟨by omega, fun b hb => by rw [w8.block b (by omega), n7.block b (by omega), x6.block b (by omega)]⟩
  have x8 := (x4.trans x5).trans x58
  have H8 := H5.more x58
  have Y8 := (x5.trans x58).blk Y4
  refine cw_seq (cw_region rfl ?_)
  refine cw_seq (cw_seq (cw_region rfl ?_))
  have R8 := R1.keep (x8.chg (S := fun _ => False)) (fun _ _ e => e)
  have hlen : ms.length ≤ maxLen := by simp only [maxLen]; omega
  obtain ⟨a, c, hfx⟩ : ∃ a c, v1 = .slice a ms.length c := by
    rcases R1.form with ⟨rfl, rfl⟩ | ⟨A, cap, rfl, hc, hm, hr⟩
    · exact ⟨_, _, rfl⟩
    · exact ⟨_, _, rfl⟩
  subst hfx
  refine cw_block ?_
  refine cw_loop (S := Nat) (fun t => [(0, .int .u8 (n0 : Int)), (1, .slice a ms.length c), (5, .pointer (some ⟨h.size, 0, none⟩)), (6, .pointer (some ⟨q, 0, none⟩)), (8, .pointer (some ⟨h6.size, 0, none⟩)), (9, .int .i64 ((upto ms t).length : Int)), (10, .int .i64 (t : Int))])
    (fun t h' => t ≤ ms.length ∧ h' = h8) (fun t => ms.length - t) 0 ⟨rfl, rfl, rfl, rfl, rfl, rfl, rfl, trivial⟩ ⟨by omega, rfl⟩ ?_
  rintro t h0 ⟨ht, e⟩
  subst h0
  refine cw_seq (cw_seq (cw_region rfl ?_))
  conv => whnf
  by_cases hlt : t < ms.length
  · refine cw_yes rfl (by omega) (cw_skip ?_)
    obtain ⟨u, h1, h2⟩ := R8.part t ms[t] (List.getElem?_eq_getElem hlt)
    obtain ⟨b, o, hab⟩ : ∃ b o, a = some ⟨b, o, none⟩ ∧ rd h8 ⟨b, o + t, none⟩ = some u := by
      rcases R8.form with ⟨h3, h4⟩ | ⟨A, cap, h3, hc, hm, hr⟩
      · rw [h4] at hlt; simp at hlt
      · injection h3 with h3
        have hs := hr.spot (by intro e; subst e; simp at h1)
        rw [hs, rdA_plain] at hr
        exact ⟨A.block, A.off, by rw [← hs]; exact h3, hr t u h1⟩
    obtain ⟨rfl, hru⟩ := hab
    obtain ⟨ua, uc, hue⟩ := h2.1.len
    subst hue
    refine cw_seq (cw_block (cw_region rfl ?_))
    conv => whnf
    refine ⟨⟨by omega, by omega⟩, ?_⟩
    conv => whnf
    refine ⟨_, hru, ?_⟩
    have hsucc := upto_succ ms t ms[t] (List.getElem?_eq_getElem hlt)
    have hle := upto_le ms (t + 1)
    have hle' : (upto ms (t + 1)).length = (upto ms t).length + ms[t].length := by rw [hsucc]; simp
    have e1 := i64_eq (((upto ms t).length : Int) + (ms[t].length : Int)) (upto ms (t + 1)).length (by omega) (by omega)
    conv => whnf
    refine cw_region rfl ?_
    exact ⟨t + 1, ⟨rfl, rfl, rfl, rfl, rfl, congrArg (fun i => some (Value.int .i64 i)) e1, slot_i64 _ _ (by omega) (by omega), trivial⟩, ⟨by omega, rfl⟩, by omega⟩
  · refine cw_no rfl (by omega) (cw_exit ?_)
    have tn : t = ms.length := by omega
    subst tn
    clear hlt ht
    rw [upto_all]
    conv => whnf
    have w3 := i64_eq ((n0 : Nat) : Int) n0 rfl (by omega)
    have lq := H8.blk.lt
    have lv := fun k (hk : ob v5 k) => OwnS.lt H8.own hk
    clear w8 n7 y7
    by_cases hover : n0 < ms.flatten.length
    · refine cw_seq (cw_region rfl ?_)
      conv => whnf
      refine ⟨_, rfl, _, write_long H8 R8 (by omega) (by omega) (by omega), ?_⟩
      rintro _ h9 ⟨rfl, e⟩
      subst h9
      conv => whnf
      refine cw_seq (cw_seq (cw_region rfl ?_))
      conv => whnf
      refine cw_yes rfl (by omega) ?_
      refine cw_seq (cw_drawn (by kernel_rfl) 24 (fun i => i == 17 || i == 19) [0, 1, 2, 3, 4, 5, 6, 7, 8, 9, 10, 11, 12, 13, 14, 15, 16, 18, 17, 19, 20, 21, 22, 23] (by kernel_rfl) rfl ?_)
      conv => whnf
      refine ⟨_, rfl, _, Fx.q (fun h1 x => len_fn (H8.more x)), ?_⟩
      conv => whnf
      refine ⟨_, Y8.rd (o := 9) rfl, ?_⟩
      refine head_g (v := .bool true) (b := true) rfl rfl rfl rfl rfl rfl (fun k hk => ?_) ?_
      · show k (.bool ((N : Int) == (N : Int)))
        rw [beq_self_eq_true]
        exact hk
      conv => whnf
      refine ⟨_, rfl, _, sum_q H8 (by omega) (by omega), ?_⟩
      conv => whnf
      refine ⟨_, by rfl, y8.all, ?_⟩
      conv => whnf
      refine ⟨.bool true, fun w => dig_same _ _ _ rfl w, ?_⟩
      conv => whnf
      refine ⟨_, by rfl, Y8.all, ?_⟩
      conv => whnf
      intro h9 x9
      refine ⟨_, rfl, _, state_fn (H8.more x9) (by omega), ?_⟩
      rintro _ h10 ⟨v10, rfl, o10, x10, f10⟩
      refine ⟨x10.toU _, ?_⟩
      intro h11 x11
      conv => whnf
      intro h12 x12
      refine ⟨_, rfl, _, same_fn (OB.r (OwnS.more o10 (x11.trans x12))) (((hR4.more (x5.trans x58)).more x9).more (x10.trans (x11.trans x12))), ?_⟩
      rintro _ h13 ⟨rfl, x13⟩
      refine ⟨x13.toU _, ?_⟩
      intro h14 x14
      conv => whnf
      refine ⟨_, rfl, _, fun h1 _ => awake_fn h1, ?_⟩
      conv => whnf
      intro h15 x15
      refine cw_ret ⟨rfl, ?_⟩
      exact x8.trans ((x9.trans (x10.trans (x11.trans x12))).trans (x13.trans (x14.trans x15)))
    · refine cw_seq (cw_region rfl ?_)
      conv => whnf
      refine ⟨_, rfl, _, write_fn H8 R8 (fun b hb => ⟨by have := x8.size; omega, by omega, fun e => by have := f5 b e; omega⟩) (by omega) (by omega) (by omega), ?_⟩
      rintro _ h9 ⟨rfl, v9, H9, c9, f9⟩
      have z9 := c9.size
      have nh : ¬ (h.size = q ∨ ob v5 h.size) := fun e => e.elim (by omega) (fun e => by have := f5 _ e; omega)
      have Y9 := c9.blk Y8 nh
      have x9 : ExtH h h9 := ⟨by have := x8.size; omega, fun b hb => by rw [c9.block b (by have := x8.size; omega) (fun e => e.elim (by omega) (fun e => by have := f5 _ e; omega)), x8.block b hb]⟩
      conv => whnf
      refine cw_seq (cw_seq (cw_region rfl ?_))
      conv => whnf
      refine cw_no rfl (by omega) (cw_skip ?_)
      have w4 := u64_in ((ms.flatten.length : Nat) : Int) ms.flatten.length rfl (by omega)
      have w5 := u64_in (((N : Nat) : Int) + (ms.flatten.length : Int)) (N + ms.flatten.length) (by omega) (by omega)
      refine cw_seq (cw_drawn (by kernel_rfl) 15 (fun _ => false) (List.range 15) (by kernel_rfl) rfl ?_)
      conv => whnf
      refine ⟨_, rfl, _, Fx.q (fun h1 x => len_fn (H9.more x)), ?_⟩
      conv => whnf
      refine ⟨_, Y9.rd (o := 9) rfl, ?_⟩
      refine head_g (b := true) rfl rfl rfl rfl rfl rfl (fun k hk => hk) ?_
      refine head_g (b := true) rfl rfl rfl rfl rfl rfl (fun k hk => hk) ?_
      refine head_g (b := true) rfl rfl rfl rfl rfl rfl (fun k hk => hk) ?_
      refine head_g (v := .bool true) (b := true) rfl rfl rfl rfl rfl rfl (fun k hk => ?_) ?_
      · show k (.bool (((N + ms.flatten.length : Nat) : Int) == IntKind.u64.wrap (((N : Nat) : Int) + IntKind.u64.wrap (ms.flatten.length : Int))))
        rw [w4, w5, beq_self_eq_true]
        exact hk
      conv => whnf
      refine ⟨_, rfl, _, fun h1 _ => awake_fn h1, ?_⟩
      conv => whnf
      intro h15 x15
      exact cw_ret ⟨rfl, x9.trans x15⟩
--ROW 'treadlelaw02.ShaFull' 'shaFull' 'u8,parts' 'upto' 'law n0 v1 l1 pv1 W.heap (by omega) R1 (by omega)'
theorem own : ownKnob Try.prog.godebug = none := by kernel_rfl
theorem laidOut : laidOutB Try.prog = true := by kernel_rfl
theorem contract (H : Type) (enc : TypeId × Value → H) (W : World) (base : Nat) (args : Array Value) (ds gs : List (DataW H)) (before : List MemPlace) (hk : Rows.uptoSmall H (ds ++ gs) = true)
    (hval0 : ∀ (j : Nat) t v, Try.f8.params[j]? = some t → args[j]? = some v → Value.okWide Try.prog W .any base t v)
    (hW : DataW.Whole enc Try.prog Try.f8.params.toList Rows.shaFullSpec.vars false W args.toList ds gs before) :
    Calls Try.prog 8 args W fun e W' => ∃ v, e = .returned v ∧ Rows.shaFullSpec.post enc Try.prog Try.f8 false true false false W args v W' := by
  have hval := hval0
  have hW' := hW
  obtain ⟨p, q, hA0, hV, rfl, hfz, hnd⟩ := hW
  have hA : DataW.TrodAll enc Try.prog W 0 (fun _ => true) true Try.f8.params.toList args.toList ds p := hA0
  rw [Try.params8] at hA hval
  obtain ⟨v0, vs0, d0, ds0, p0, q0, hargs, rfl, rfl, h0, r0⟩ := trodAll_cons hA
  obtain ⟨v1, vs1, d1, ds1, p1, q1, rfl, rfl, rfl, h1, r1⟩ := trodAll_cons r0
  obtain ⟨rfl, rfl, rfl⟩ := trodAll_nil r1
  obtain rfl : args = #[v0, v1] := by cases args; simp_all
  obtain ⟨rfl, rfl⟩ := trodVars_none hV
  have k0 := h0
  have lt0 : ∀ x ∈ p0, x.block < W.heap.size := by obtain ⟨m, hm⟩ := k0; exact DataW.trod_lt m _ _ _ hm
  obtain ⟨a0, rfl, rfl, rfl, w0⟩ := open_int Try.underlying5 (hval 0 5 v0 rfl rfl) h0
  have hx0 := bounds_u8 w0
  obtain ⟨n0, rfl⟩ : ∃ n : Nat, a0 = n := ⟨a0.toNat, by omega⟩
  have k1 := h1
  have lt1 : ∀ x ∈ p1, x.block < W.heap.size := by obtain ⟨m, hm⟩ := k1; exact DataW.trod_lt m _ _ _ hm
  obtain ⟨l1, pv1, R1, B1⟩ := open_parts (hval 1 52 v1 rfl rfl) h1
  have hb := hk
  simp only [Rows.uptoSmall, decide_eq_true_eq, List.append_nil, Rows.uptoBulkAll, Rows.uptoBulk] at hb
  clear hA0 hval0
  refine (Fx.calls (by kernel_rfl) (law n0 v1 l1 pv1 W.heap (by omega) R1 (by omega))).mono fun e W' ⟨he, bel⟩ => ?_
  subst he
  exact ⟨_, rfl, _, _, _, [], _, [], hW', trodAll_mk1 (shut_bool Try.underlying4 _), (trodAll_cons_mk (Below.trod laidOut (by kernel_rfl) (of_decide_eq_true (by kernel_rfl)) k0 bel lt0) (trodAll_cons_mk (Below.trod laidOut (by kernel_rfl) (of_decide_eq_true (by kernel_rfl)) k1 bel lt1) trodAll_mk0)), rfl, bel.frame _, fun h => by cases h⟩
theorem lifted (os : Os) (started : os.Started) (H : Type) (enc : TypeId × Value → H) (F : Stop.Interp) :
    ReturnsInHanded {} Try.checked os 8 .any ((Rows.OpenSpec.upto Rows.shaFullSpec).pre6 enc Try.prog Try.f8 Rows.shaFullUptoRow.domain false) (((Rows.OpenSpec.upto Rows.shaFullSpec).at F).post enc Try.prog Try.f8 false true false false) := by
  refine returnsInHanded_of_cond (C := Try.checked) (s := Rows.OpenSpec.upto Rows.shaFullSpec) (k := Rows.uptoSmall) rfl own started (by kernel_rfl) Try.func8
    (OpenSpec.witness (enc := enc) (C := Try.checked) (s := Rows.OpenSpec.upto Rows.shaFullSpec) (k := Rows.uptoSmall) rfl false ⟨#[], #[.int .u8 0, .slice none 0 0], []⟩ 8 (by kernel_rfl) (by kernel_rfl) (by kernel_rfl)
      (x := ([.lit (.int .u8 0), .nil], [], [])) (by kernel_rfl) rfl (by kernel_rfl)) ?_
  intro W base args ds gs before hval hW _ hk _
  exact contract H enc W base args ds gs before hk hval hW
theorem over : Rows.shaFullUptoRow.holds Try.pinned (Rows.OpenSpec.upto Rows.shaFullSpec) :=
  OpenClaim.holds_of_cond 8 Try.f8 rfl rfl rfl rfl rfl rfl rfl ⟨rfl, rfl, rfl, rfl, rfl⟩ rfl rfl rfl rfl rfl (by kernel_rfl) Try.func8 (by kernel_rfl)
    (of_decide_eq_true (by kernel_rfl)) (by unfold Func.isWrapper; first | (rw [if_pos (by decide +kernel)]; kernel_rfl) | (rw [if_neg (by decide +kernel)]; exact ⟨rfl, rfl⟩))
    (fun os started H enc _ F => lifted os started H enc F)
theorem proved : Rows.ShaFullUptoSaid := over
end Go.Proofs.Ytnjimdjojinffaa.shaFull
