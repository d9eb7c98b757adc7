/-
  ShaApart: unlike purposes or parts are hashed as unlike bytes: whatever tags and parts (of bulk at most 1048576), the law returns true, and what was there stays.
-/
import Derived.Test.YtnjimdjojinffaaShaSame
import Derived.Test.YtnjimdjojinffaaShaParts
namespace Go.Proofs.Ytnjimdjojinffaa
open Go Vm
theorem small_of : ∀ (ms : List (List UInt8)), ms.flatten.length < 18446744073709551616 → Sha.small ms
  | [], _ => fun m hm => by cases hm
  | x :: ms, h => fun m hm => by
    rw [List.flatten_cons, List.length_append] at h
    rcases List.mem_cons.1 hm with rfl | hm
    · omega
    · exact small_of ms (by omega) m hm
theorem preimage_any {h : Heap} {s : List UInt8} {x : Value} {ms : List (List UInt8)} {pv : List Value} (hx : PD (fun b => b < h.size) h x ms pv) (hs : s.length ≤ maxLen) (hms : ms.flatten.length + ms.length ≤ 1000000000000) :
    Fx Try.prog 30 #[.string (bs s), x] h fun u h' => ∃ v' e, u = .tuple #[v', .int .i64 e] ∧ (Sha.isTag s = true → e = 0 ∧ OB h' v' (Sha.pre s ms)) ∧ (Sha.isTag s = false → e = 22) ∧ ExtH h h' := by
  cases hT : Sha.isTag s with
  | true =>
    refine (preimage_fn hx (fun b hb => hb) hT hms).mono ?_
    rintro _ h' ⟨v', rfl, o, e, _⟩
    exact ⟨v', 0, rfl, fun _ => ⟨rfl, o⟩, (fun h => nomatch h), e⟩
  | false =>
    refine (preimage_no hs hT h).mono ?_
    rintro _ h' ⟨rfl, rfl⟩
    exact ⟨_, 22, rfl, (fun h => nomatch h), fun _ => rfl, ExtH.refl _⟩
end Go.Proofs.Ytnjimdjojinffaa
namespace Go.Proofs.Ytnjimdjojinffaa.shaApart
open Go Vm
open Go.ChangeShapes Go.WideShapes Go.ChangeAt Go.RowKit
set_option maxRecDepth 100000
set_option linter.unusedVariables false
theorem law (s t : List UInt8) (x y : Value) (ms ns : List (List UInt8)) (pv qv : List Value) (h : Heap) (R0 : PD (fun k => k < h.size) h x ms pv) (R1 : PD (fun k => k < h.size) h y ns qv)
    (hs : s.length + ms.flatten.length + ms.length ≤ 1048576) (ht : t.length + ns.flatten.length + ns.length ≤ 1048576) :
    Fx Try.prog 9 #[.agg #[.string (bs s), x], .agg #[.string (bs t), y]] h fun u h' => u = .bool true ∧ ExtH h h' := by
  refine fn_of 95 Try.func9 rfl (by kernel_rfl) rfl (by simp) ?_
  obtain ⟨a, c, hfx, hlen⟩ := R0.fix
  obtain ⟨b, d, hfy, hlen2⟩ := R1.fix
  refine cw_seq (cw_region rfl ?_)
  conv => whnf
  intro h1 n1
  conv => whnf
  intro h2 n2
  have x2 := n1.ext.trans n2.ext
  have y1 : Blk h2 h.size [.string (bs s), x] 57 := n2.ext.blk n1.blk
  have y2 : Blk h2 h1.size [.string (bs t), y] 57 := n2.blk
  have z1 := n1.size; have z2 := n2.size
  clear n1 n2
  generalize hb1 : h1.size = b1 at *
  have Q0 := R0.keep (x2.chg (S := fun _ => False)) (fun _ _ e => e)
  have Q1 := R1.keep (x2.chg (S := fun _ => False)) (fun _ _ e => e)
  have old : ∀ {x : Value} {ms : List (List UInt8)} {pv : List Value} {h' : Heap}, PD (fun k => k < h.size) h x ms pv → ExtH h h' → PD (fun k => k < h'.size) h' x ms pv := fun R e => by
    have K := R.keep (e.chg (S := fun _ => False)) (fun _ _ e => e)
    exact ⟨K.src, fun hne b hb => Nat.lt_of_lt_of_le (K.out hne b hb) e.size, fun i m hi => by
      obtain ⟨v, h1, h2⟩ := K.part i m hi
      exact ⟨v, h1, h2.1, fun hne b hb => Nat.lt_of_lt_of_le (h2.2 hne b hb) e.size⟩⟩
  refine cw_seq (cw_region rfl ?_)
  conv => whnf
  refine ⟨_, y1.rd (o := 0) rfl, ?_⟩
  conv => whnf
  refine ⟨_, y1.rd (o := 1) rfl, ?_⟩
  conv => whnf
  refine ⟨_, rfl, _, preimage_any (old R0 x2) (by simp only [maxLen]; omega) (by omega), ?_⟩
  rintro _ h3 ⟨v3, e3, rfl, yes3, no3, x3⟩
  conv => whnf
  refine cw_seq (cw_region rfl ?_)
  conv => whnf
  refine ⟨_, (x3.blk y2).rd (o := 0) rfl, ?_⟩
  conv => whnf
  refine ⟨_, (x3.blk y2).rd (o := 1) rfl, ?_⟩
  conv => whnf
  refine ⟨_, rfl, _, preimage_any (old R1 (x2.trans x3)) (by simp only [maxLen]; omega) (by omega), ?_⟩
  rintro _ h4 ⟨v4, e4, rfl, yes4, no4, x4⟩
  conv => whnf
  have x24 := x3.trans x4
  have x04 := x2.trans x24
  have w1 := x24.blk y1
  have w2 := x24.blk y2
  have P0 := old R0 x04
  have P1 := old R1 x04
  have q3 : Sha.isTag s = true → OB h4 v3 (Sha.pre s ms) := fun e => OwnS.more (yes3 e).2 x4
  have hts : s.length ≤ maxLen := by simp only [maxLen]; omega
  have htt : t.length ≤ maxLen := by simp only [maxLen]; omega
  refine cw_seq (cw_seq (cw_region rfl ?_))
  cases hS : Sha.isTag s with
  | false =>
    cases hT : Sha.isTag t with
    | false =>
      obtain rfl := (no3 hS)
      obtain rfl := (no4 hT)
      conv => whnf
      refine cw_true rfl (cw_seq (cw_region rfl ?_))
      conv => whnf
      refine ⟨_, w1.rd (o := 0) rfl, ?_⟩
      conv => whnf
      refine ⟨_, rfl, _, rtag_fn s hts h4, ?_⟩
      rw [hS]
      rintro _ h5 ⟨rfl, e⟩
      subst h5
      conv => whnf
      refine ⟨.bool true, fun w => by kernel_rfl, ?_⟩
      conv => whnf
      refine ⟨_, w2.rd (o := 0) rfl, ?_⟩
      conv => whnf
      refine ⟨_, rfl, _, rtag_fn t htt h4, ?_⟩
      rw [hT]
      rintro _ h5 ⟨rfl, e⟩
      subst h5
      conv => whnf
      refine ⟨.bool true, fun w => by kernel_rfl, ?_⟩
      conv => whnf
      refine ⟨_, rfl, _, awake_fn h4, ?_⟩
      rintro _ h5 ⟨rfl, x5⟩
      exact cw_ret ⟨rfl, x04.trans x5⟩
    | true =>
      obtain rfl := (no3 hS)
      obtain rfl := (yes4 hT).1
      conv => whnf
      refine cw_true rfl (cw_seq (cw_region rfl ?_))
      conv => whnf
      refine ⟨_, w1.rd (o := 0) rfl, ?_⟩
      conv => whnf
      refine ⟨_, rfl, _, rtag_fn s hts h4, ?_⟩
      rw [hS]
      rintro _ h5 ⟨rfl, e⟩
      subst h5
      conv => whnf
      refine ⟨.bool true, fun w => by kernel_rfl, ?_⟩
      conv => whnf
      refine ⟨_, w2.rd (o := 0) rfl, ?_⟩
      conv => whnf
      refine ⟨_, rfl, _, rtag_fn t htt h4, ?_⟩
      rw [hT]
      rintro _ h5 ⟨rfl, e⟩
      subst h5
      conv => whnf
      refine ⟨.bool true, fun w => by kernel_rfl, ?_⟩
      conv => whnf
      refine ⟨_, rfl, _, awake_fn h4, ?_⟩
      rintro _ h5 ⟨rfl, x5⟩
      exact cw_ret ⟨rfl, x04.trans x5⟩
  | true =>
    cases hT : Sha.isTag t with
    | false =>
      obtain rfl := (yes3 hS).1
      obtain rfl := (no4 hT)
      conv => whnf
      refine cw_true rfl (cw_seq (cw_region rfl ?_))
      conv => whnf
      refine ⟨_, w1.rd (o := 0) rfl, ?_⟩
      conv => whnf
      refine ⟨_, rfl, _, rtag_fn s hts h4, ?_⟩
      rw [hS]
      rintro _ h5 ⟨rfl, e⟩
      subst h5
      conv => whnf
      refine ⟨.bool true, fun w => by kernel_rfl, ?_⟩
      conv => whnf
      refine ⟨_, w2.rd (o := 0) rfl, ?_⟩
      conv => whnf
      refine ⟨_, rfl, _, rtag_fn t htt h4, ?_⟩
      rw [hT]
      rintro _ h5 ⟨rfl, e⟩
      subst h5
      conv => whnf
      refine ⟨.bool true, fun w => by kernel_rfl, ?_⟩
      conv => whnf
      refine ⟨_, rfl, _, awake_fn h4, ?_⟩
      rintro _ h5 ⟨rfl, x5⟩
      exact cw_ret ⟨rfl, x04.trans x5⟩
    | true =>
      obtain rfl := (yes3 hS).1
      obtain rfl := (yes4 hT).1
      conv => whnf
      refine cw_false rfl (cw_skip ?_)
      have o3 := q3 hS
      have o4 := (yes4 hT).2
      obtain ⟨hs1, hs2⟩ := Sha.isTag_len hS
      obtain ⟨ht1, ht2⟩ := Sha.isTag_len hT
      have sm1 := small_of ms (by omega)
      have sm2 := small_of ns (by omega)
      have hpi := Sha.pre_inj (s := s) (t := t) (ms := ms) (ns := ns) hs2 ht2 sm1 sm2
      subst hfx hfy
      clear Q0 Q1 old yes3 yes4 no3 no4
      refine cw_seq (cw_region rfl ?_)
      conv => whnf
      refine ⟨_, w1.rd (o := 0) rfl, ?_⟩
      conv => whnf
      refine ⟨_, w2.rd (o := 0) rfl, ?_⟩
      by_cases hst : s = t
      · subst hst
        refine ops_q (v := .bool true) rfl rfl (fun k hk => ?_) ?_
        · show k (.bool ((bs s).toList == (bs s).toList))
          rw [beq_self_eq_true]; exact hk
        conv => whnf
        refine ⟨_, w1.rd (o := 1) rfl, ?_⟩
        conv => whnf
        refine ⟨_, w2.rd (o := 1) rfl, ?_⟩
        conv => whnf
        refine ⟨_, rfl, _, sameparts_fn P0 P1, ?_⟩
        rintro _ h5 ⟨rfl, x5⟩
        by_cases hmn : ms = ns
        · rw [decide_eq_true hmn]
          conv => whnf
          refine cw_seq (cw_seq (cw_region rfl ?_))
          conv => whnf
          refine ⟨_, rfl, _, alike_fn (RB.more o3.r x5) (RB.more o4.r x5), ?_⟩
          rintro _ h6 ⟨rfl, x6⟩
          rw [decide_eq_true (hpi.2 ⟨rfl, hmn⟩)]
          conv => whnf
          refine ⟨.bool false, fun w => by kernel_rfl, ?_⟩
          refine cw_false rfl (cw_skip ?_)
          refine cw_seq (cw_seq (cw_region rfl ?_))
          conv => whnf
          refine cw_false rfl (cw_skip ?_)
          refine cw_seq (cw_region rfl ?_)
          conv => whnf
          refine ⟨_, rfl, _, awake_fn h6, ?_⟩
          rintro _ h7 ⟨rfl, x7⟩
          exact cw_ret ⟨rfl, (x04.trans x5).trans (x6.trans x7)⟩
        · rw [decide_eq_false hmn]
          conv => whnf
          refine cw_seq (cw_seq (cw_region rfl ?_))
          conv => whnf
          refine ⟨_, rfl, _, alike_fn (RB.more o3.r x5) (RB.more o4.r x5), ?_⟩
          rintro _ h6 ⟨rfl, x6⟩
          rw [decide_eq_false (fun e => hmn (hpi.1 e).2)]
          conv => whnf
          refine ⟨.bool false, fun w => by kernel_rfl, ?_⟩
          refine cw_false rfl (cw_skip ?_)
          have x46 := x5.trans x6
          have u1 := x46.blk w1
          have u2 := x46.blk w2
          have r3 := RB.more o3.r x46
          have r4 := RB.more o4.r x46
          refine cw_seq (cw_seq (cw_region rfl ?_))
          conv => whnf
          refine ⟨_, u1.rd (o := 0) rfl, ?_⟩
          conv => whnf
          refine ⟨_, u2.rd (o := 0) rfl, ?_⟩
          refine ops_g (v := .bool true) (b := true) rfl rfl rfl rfl (fun k hk => ?_) ?_
          · show k (.bool ((bs s).toList == (bs s).toList))
            rw [beq_self_eq_true]; exact hk
          conv => whnf
          refine ⟨_, u1.rd (o := 1) rfl, ?_⟩
          conv => whnf
          refine ⟨_, u2.rd (o := 1) rfl, ?_⟩
          refine ops_g (b := true) rfl rfl rfl rfl (fun k hk => hk) ?_
          by_cases hln : ms.length = ns.length
          · refine ops_g (v := .bool true) (b := true) rfl rfl rfl rfl (fun k hk => ?_) ?_
            · show k (.bool ((ms.length : Int) == (ns.length : Int)))
              rw [hln, beq_self_eq_true]; exact hk
            conv => whnf
            refine ⟨_, rfl, _, begins_fn r3 r4, ?_⟩
            rintro _ h7 ⟨rfl, x7⟩
            rw [decide_eq_false (fun e => Sha.pre_apart sm1 sm2 hln hmn e.2)]
            conv => whnf
            refine ⟨_, rfl, _, begins_fn (r4.more x7) (r3.more x7), ?_⟩
            rintro _ h8 ⟨rfl, x8⟩
            rw [decide_eq_false (fun e => Sha.pre_apart sm2 sm1 hln.symm (fun e => hmn e.symm) e.2)]
            conv => whnf
            refine cw_false rfl (cw_skip ?_)
            refine cw_seq (cw_region rfl ?_)
            conv => whnf
            refine ⟨_, rfl, _, awake_fn h8, ?_⟩
            rintro _ h9 ⟨rfl, x9⟩
            exact cw_ret ⟨rfl, (x04.trans x46).trans ((x7.trans x8).trans x9)⟩
          · refine ops_g (v := .bool false) (b := true) rfl rfl rfl rfl (fun k hk => ?_) ?_
            · show k (.bool ((ms.length : Int) == (ns.length : Int)))
              rw [show ((ms.length : Int) == (ns.length : Int)) = false by rw [beq_eq_false_iff_ne]; omega]; exact hk
            conv => whnf
            refine cw_false rfl (cw_skip ?_)
            refine cw_seq (cw_region rfl ?_)
            conv => whnf
            refine ⟨_, rfl, _, awake_fn h6, ?_⟩
            rintro _ h7 ⟨rfl, x7⟩
            exact cw_ret ⟨rfl, (x04.trans x46).trans x7⟩
      · refine ops_q (v := .bool false) rfl rfl (fun k hk => ?_) ?_
        · show k (.bool ((bs s).toList == (bs t).toList))
          rw [bs_toList, bs_toList, show (s == t) = false by rw [beq_eq_false_iff_ne]; exact hst]; exact hk
        conv => whnf
        refine cw_seq (cw_seq (cw_region rfl ?_))
        conv => whnf
        refine ⟨_, rfl, _, alike_fn o3.r o4.r, ?_⟩
        rintro _ h6 ⟨rfl, x6⟩
        rw [decide_eq_false (fun e => hst (hpi.1 e).1)]
        conv => whnf
        refine ⟨.bool false, fun w => by kernel_rfl, ?_⟩
        refine cw_false rfl (cw_skip ?_)
        have u1 := x6.blk w1
        have u2 := x6.blk w2
        refine cw_seq (cw_seq (cw_region rfl ?_))
        conv => whnf
        refine ⟨_, u1.rd (o := 0) rfl, ?_⟩
        conv => whnf
        refine ⟨_, u2.rd (o := 0) rfl, ?_⟩
        refine ops_g (v := .bool false) (b := true) rfl rfl rfl rfl (fun k hk => ?_) ?_
        · show k (.bool ((bs s).toList == (bs t).toList))
          rw [bs_toList, bs_toList, show (s == t) = false by rw [beq_eq_false_iff_ne]; exact hst]; exact hk
        conv => whnf
        refine cw_false rfl (cw_skip ?_)
        refine cw_seq (cw_region rfl ?_)
        conv => whnf
        refine ⟨_, rfl, _, awake_fn h6, ?_⟩
        rintro _ h7 ⟨rfl, x7⟩
        exact cw_ret ⟨rfl, x04.trans (x6.trans x7)⟩
--ROW 'treadlelaw02.ShaApart' 'shaApart' 'named,named' 'upto' 'law s0 s1 x0 x1 l0 l1 pv0 pv1 W.heap R0 R1 (by omega) (by omega)'
theorem own : ownKnob Try.prog.godebug = none := by kernel_rfl
theorem laidOut : laidOutB Try.prog = true := by kernel_rfl
theorem contract (H : Type) (enc : TypeId × Value → H) (W : World) (base : Nat) (args : Array Value) (ds gs : List (DataW H)) (before : List MemPlace) (hk : Rows.uptoSmall H (ds ++ gs) = true)
    (hval0 : ∀ (j : Nat) t v, Try.f9.params[j]? = some t → args[j]? = some v → Value.okWide Try.prog W .any base t v)
    (hW : DataW.Whole enc Try.prog Try.f9.params.toList Rows.shaApartSpec.vars false W args.toList ds gs before) :
    Calls Try.prog 9 args W fun e W' => ∃ v, e = .returned v ∧ Rows.shaApartSpec.post enc Try.prog Try.f9 false true false false W args v W' := by
  have hval := hval0
  have hW' := hW
  obtain ⟨p, q, hA0, hV, rfl, hfz, hnd⟩ := hW
  have hA : DataW.TrodAll enc Try.prog W 0 (fun _ => true) true Try.f9.params.toList args.toList ds p := hA0
  rw [Try.params9] at hA hval
  obtain ⟨v0, vs0, d0, ds0, p0, q0, hargs, rfl, rfl, h0, r0⟩ := trodAll_cons hA
  obtain ⟨v1, vs1, d1, ds1, p1, q1, rfl, rfl, rfl, h1, r1⟩ := trodAll_cons r0
  obtain ⟨rfl, rfl, rfl⟩ := trodAll_nil r1
  obtain rfl : args = #[v0, v1] := by cases args; simp_all
  obtain ⟨rfl, rfl⟩ := trodVars_none hV
  have k0 := h0
  have lt0 : ∀ x ∈ p0, x.block < W.heap.size := by obtain ⟨m, hm⟩ := k0; exact DataW.trod_lt m _ _ _ hm
  obtain ⟨s0, x0, l0, pv0, rfl, R0, B0⟩ := open_named (hval 0 57 v0 rfl rfl) h0
  have k1 := h1
  have lt1 : ∀ x ∈ p1, x.block < W.heap.size := by obtain ⟨m, hm⟩ := k1; exact DataW.trod_lt m _ _ _ hm
  obtain ⟨s1, x1, l1, pv1, rfl, R1, B1⟩ := open_named (hval 1 57 v1 rfl rfl) h1
  have hb := hk
  simp only [Rows.uptoSmall, decide_eq_true_eq, List.append_nil, Rows.uptoBulkAll, Rows.uptoBulk] at hb
  clear hA0 hval0
  refine (Fx.calls (by kernel_rfl) (law s0 s1 x0 x1 l0 l1 pv0 pv1 W.heap R0 R1 (by omega) (by omega))).mono fun e W' ⟨he, bel⟩ => ?_
  subst he
  exact ⟨_, rfl, _, _, _, [], _, [], hW', trodAll_mk1 (shut_bool Try.underlying4 _), (trodAll_cons_mk (Below.trod laidOut (by kernel_rfl) (of_decide_eq_true (by kernel_rfl)) k0 bel lt0) (trodAll_cons_mk (Below.trod laidOut (by kernel_rfl) (of_decide_eq_true (by kernel_rfl)) k1 bel lt1) trodAll_mk0)), rfl, bel.frame _, fun h => by cases h⟩
theorem lifted (os : Os) (started : os.Started) (H : Type) (enc : TypeId × Value → H) (F : Stop.Interp) :
    ReturnsInHanded {} Try.checked os 9 .any ((Rows.OpenSpec.upto Rows.shaApartSpec).pre6 enc Try.prog Try.f9 Rows.shaApartUptoRow.domain false) (((Rows.OpenSpec.upto Rows.shaApartSpec).at F).post enc Try.prog Try.f9 false true false false) := by
  refine returnsInHanded_of_cond (C := Try.checked) (s := Rows.OpenSpec.upto Rows.shaApartSpec) (k := Rows.uptoSmall) rfl own started (by kernel_rfl) Try.func9
    (OpenSpec.witness (enc := enc) (C := Try.checked) (s := Rows.OpenSpec.upto Rows.shaApartSpec) (k := Rows.uptoSmall) rfl false ⟨#[], #[Value.agg #[Value.string ByteArray.empty, Value.slice none 0 0], Value.agg #[Value.string ByteArray.empty, Value.slice none 0 0]], []⟩ 8 (by kernel_rfl) (by kernel_rfl) (by kernel_rfl)
      (x := ([.agg [.lit (.string []), .nil], .agg [.lit (.string []), .nil]], [], [])) (by kernel_rfl) rfl (by kernel_rfl)) ?_
  intro W base args ds gs before hval hW _ hk _
  exact contract H enc W base args ds gs before hk hval hW
theorem over : Rows.shaApartUptoRow.holds Try.pinned (Rows.OpenSpec.upto Rows.shaApartSpec) :=
  OpenClaim.holds_of_cond 9 Try.f9 rfl rfl rfl rfl rfl rfl rfl ⟨rfl, rfl, rfl, rfl, rfl⟩ rfl rfl rfl rfl rfl (by kernel_rfl) Try.func9 (by kernel_rfl)
    (of_decide_eq_true (by kernel_rfl)) (by unfold Func.isWrapper; first | (rw [if_pos (by decide +kernel)]; kernel_rfl) | (rw [if_neg (by decide +kernel)]; exact ⟨rfl, rfl⟩))
    (fun os started H enc _ F => lifted os started H enc F)
theorem proved : Rows.ShaApartUptoSaid := over
end Go.Proofs.Ytnjimdjojinffaa.shaApart
