/-
  PoolNobody: the walk.
-/
import Derived.Test.YtcmjgkjnnmfijaaPoolAsksUn
namespace Go.Proofs.Ytcmjgkjnnmfijaa
open Go Vm
set_option maxRecDepth 100000
set_option linter.unusedVariables false
set_option linter.unusedSimpArgs false
theorem nobody_fn {h : Heap} {kv : Value} (o : Opv) (rk : RB h kv o.ks) (hks : o.ks.length ≤ 1000000000) :
    Fx Try.prog 9 #[.agg (opC o kv).toArray] h fun u h' => u = .bool true ∧ ExtH h h' := by
  refine fn_of 56 Try.func9 rfl (by kernel_rfl) rfl (by simp) ?_
  obtain ⟨ka, kc, hke, _⟩ := rk.fix
  subst hke
  refine cw_seq (cw_region rfl ?_)
  conv => whnf
  intro ha na
  have ya : Blk ha h.size (opC o (.slice ka o.ks.length kc)) 41 := na.blk
  have xa := na.ext
  clear na
  conv => whnf
  refine cw_seq (cw_region rfl ?_)
  refine cw_seq (cw_seq (cw_region rfl ?_))
  refine cw_block ?_
  refine cw_loop (S := Nat) (fun i => [(1, .pointer (some ⟨h.size, 0, none⟩)), (3, .pointer none), (4, .int .i64 (i : Int))])
    (fun i h' => i ≤ 2 ∧ ExtH ha h') (fun i => 2 - i) 0 ⟨rfl, rfl, rfl, trivial⟩ ⟨by omega, ExtH.refl _⟩ ?_
  rintro i h1 ⟨hi, x1⟩
  have y1 := x1.blk ya
  refine cw_seq (cw_seq (cw_region rfl ?_))
  conv => whnf
  by_cases hlt : i < 2
  · refine cw_yes rfl (by show (i : Int) < 2; omega) (cw_skip ?_)
    refine cw_seq (cw_block (cw_seq (cw_region rfl ?_)))
    conv => whnf
    refine cw_seq (cw_mono (Q := fun e fr h' => e = .normal ∧ ∃ pv, Sub [(1, .pointer (some ⟨h.size, 0, none⟩)), (3, .pointer none), (4, .int .i64 (i : Int)), (5, pv)] fr ∧ Un h' pv ∧ ExtH h1 h') ?_ ?_)
    · refine cw_seq (cw_region rfl ?_)
      by_cases h1' : (i : Int) = 1
      · refine cw_beq_yes rfl h1' ?_
        refine cw_region rfl ?_
        conv => whnf
        refine ⟨_, rfl, #[.int .i64 0, .int .i64 0, .int .i64 0, .slice none 0 0], fun w => by kernel_rfl, ?_⟩
        conv => whnf
        intro h2 n2
        exact ⟨rfl, _, ⟨rfl, rfl, rfl, rfl, trivial⟩, .inr ⟨h1.size, rfl, n2.blk⟩, n2.ext⟩
      · refine cw_beq_no rfl h1' (cw_skip ?_)
        exact ⟨rfl, _, ⟨rfl, rfl, rfl, rfl, trivial⟩, .inl rfl, ExtH.refl _⟩
    · rintro e fr h2 ⟨rfl, pv, hsub, U, x2⟩
      refine cw_keep _ hsub ?_
      have y2 := x2.blk y1
      refine cw_seq (cw_region rfl ?_)
      conv => whnf
      refine ⟨opC o (.slice ka o.ks.length kc), rfl, y2.all, ?_⟩
      conv => whnf
      refine ⟨_, rfl, _, asks_un o U (rk.more (xa.trans (x1.trans x2))) hks, ?_⟩
      rintro _ h3 ⟨rfl, x3⟩
      conv => whnf
      intro h4 n4
      conv => whnf
      refine store_told n4.blk zeroW_key (OI.nil h4) ?_
      intro h5 w5
      have z4 := n4.size; have z5 := w5.size
      have x35 : ExtH h3 h5 := ⟨by omega, fun b hb => by rw [w5.block b (by omega), n4.block b hb]⟩
      have y6 := w5.new
      clear n4 w5
      refine cw_seq (cw_region rfl ?_)
      conv => whnf
      refine ⟨_, rfl, (toldC 0 false (.slice none 0 0) zeroW 2).toArray, fun w => by kernel_rfl, ?_⟩
      conv => whnf
      intro h6 n6
      conv => whnf
      refine store_told n6.blk zeroW_key (OI.nil h6) ?_
      intro h7 w7
      have z6 := n6.size; have z7 := w7.size
      have x57 : ExtH h5 h7 := ⟨by omega, fun b hb => by rw [w7.block b (by omega), n6.block b hb]⟩
      have y7 := w7.new
      replace y6 := x57.blk y6
      have h67 : h3.size < h5.size := by omega
      clear n6 w7
      have x27 := (x3.trans x35).trans x57
      have rd7 := (x27.blk y2).rd (o := 0) (v := .int .i64 o.d) rfl
      refine cw_seq (cw_mono (Q := fun e fr h' => e = .normal ∧ Sub [(1, .pointer (some ⟨h.size, 0, none⟩)), (3, .pointer none), (4, .int .i64 (i : Int)), (5, pv), (6, .pointer (some ⟨h3.size, 0, none⟩)), (7, .pointer (some ⟨h5.size, 0, none⟩))] fr ∧
        Blk h' h3.size (toldC 0 false (.slice none 0 0) zeroW (askU o)) 37 ∧ Blk h' h5.size (toldC 0 false (.slice none 0 0) zeroW (askU o)) 37 ∧ ExtH h5 h') ?_ ?_)
      · have yes : ∀ (hz : askU o = 0) (K : Heap → Prop), (∀ h', Blk h' h3.size (toldC 0 false (.slice none 0 0) zeroW (askU o)) 37 ∧ Blk h' h5.size (toldC 0 false (.slice none 0 0) zeroW (askU o)) 37 ∧ ExtH h5 h' → K h') →
            ∀ h', Wrote h7 h' h5.size (toldC 0 false (.slice none 0 0) zeroW 0) 37 → K h' := fun hz K H h' w' => H h' ⟨w'.blk y6 (by omega), by rw [hz]; exact w'.new, ⟨by have := w'.size; omega, fun b hb => by rw [w'.block b (by omega), x57.block b hb]⟩⟩
        have no : askU o = 2 → Blk h7 h3.size (toldC 0 false (.slice none 0 0) zeroW (askU o)) 37 ∧ Blk h7 h5.size (toldC 0 false (.slice none 0 0) zeroW (askU o)) 37 ∧ ExtH h5 h7 := fun hz => ⟨y6, by rw [hz]; exact y7, x57⟩
        refine cw_seq (cw_region rfl ?_)
        conv => whnf
        refine ⟨_, rd7, ?_⟩
        by_cases h7' : 7 ≤ o.d
        · refine ops_q (v := .bool true) rfl rfl (fun k hk => say true (decide_eq_true h7') hk) ?_
          conv => whnf
          refine ⟨_, rd7, ?_⟩
          by_cases h10 : o.d = 10
          · refine ops_g (v := .bool false) (b := true) rfl rfl rfl rfl (fun k hk => say_ne_no h10 hk) ?_
            conv => whnf
            refine ⟨_, rd7, ?_⟩
            conv => whnf
            refine cw_no rfl (by show ¬ o.d < 0; omega) (cw_skip ?_)
            exact ⟨rfl, ⟨rfl, rfl, rfl, rfl, rfl, rfl, trivial⟩, no (by simp [askU, h10])⟩
          · refine ops_g (v := .bool true) (b := true) rfl rfl rfl rfl (fun k hk => say_ne h10 hk) ?_
            conv => whnf
            refine cw_true rfl ?_
            refine cw_region rfl ?_
            conv => whnf
            refine ⟨_, rfl, (toldC 0 false (.slice none 0 0) zeroW 0).toArray, fun w => by kernel_rfl, ?_⟩
            conv => whnf
            refine ⟨_, _, y7, ⟨by show 0 + 41 ≤ 41; decide, rfl, by simp [toldC, wkC, Value.oneCell', zeroW, u8v]⟩, ?_⟩
            intro h8 w8
            replace w8 := w8.cast (l' := toldC 0 false (.slice none 0 0) zeroW 0) (by rfl)
            exact yes (by unfold askU; rw [if_neg (by omega)]) _ (fun h' e => ⟨rfl, ⟨rfl, rfl, rfl, rfl, rfl, rfl, trivial⟩, e⟩) h8 w8
        · refine ops_q (v := .bool false) rfl rfl (fun k hk => say false (decide_eq_false h7') hk) ?_
          conv => whnf
          refine ⟨_, rd7, ?_⟩
          conv => whnf
          by_cases h0 : o.d < 0
          · refine cw_yes rfl h0 ?_
            refine cw_region rfl ?_
            conv => whnf
            refine ⟨_, rfl, (toldC 0 false (.slice none 0 0) zeroW 0).toArray, fun w => by kernel_rfl, ?_⟩
            conv => whnf
            refine ⟨_, _, y7, ⟨by show 0 + 41 ≤ 41; decide, rfl, by simp [toldC, wkC, Value.oneCell', zeroW, u8v]⟩, ?_⟩
            intro h8 w8
            replace w8 := w8.cast (l' := toldC 0 false (.slice none 0 0) zeroW 0) (by rfl)
            exact yes (by unfold askU; rw [if_neg (by omega)]) _ (fun h' e => ⟨rfl, ⟨rfl, rfl, rfl, rfl, rfl, rfl, trivial⟩, e⟩) h8 w8
          · refine cw_no rfl h0 (cw_skip ?_)
            exact ⟨rfl, ⟨rfl, rfl, rfl, rfl, rfl, rfl, trivial⟩, no (by unfold askU; rw [if_pos (by omega)])⟩
      · rintro e fr h8 ⟨rfl, hsub, y8, y8', x8⟩
        refine cw_keep _ hsub ?_
        have U8 := ((U.more x3).more x35).more x8
        refine cw_seq (cw_region rfl ?_)
        conv => whnf
        refine ⟨_, rfl, y8.all, ?_⟩
        conv => whnf
        refine ⟨_, rfl, y8'.all, ?_⟩
        conv => whnf
        refine ⟨_, rfl, _, same_yes zeroW_key (OI.nil h8).r (OI.nil h8).r, ?_⟩
        rintro _ h9 ⟨rfl, x9⟩
        conv => whnf
        refine ⟨_, rfl, _, un_all (U8.more x9), ?_⟩
        rintro _ h10 ⟨rfl, x10⟩
        conv => whnf
        refine ⟨_, rfl, _, un_live ((U8.more x9).more x10), ?_⟩
        rintro _ h11 ⟨rfl, x11⟩
        conv => whnf
        refine ⟨_, rfl, _, un_clone (((U8.more x9).more x10).more x11), ?_⟩
        rintro _ h12 ⟨rfl, x12⟩
        conv => whnf
        refine ⟨.bool false, fun w => by kernel_rfl, ?_⟩
        conv => whnf
        refine cw_false rfl (cw_skip ?_)
        refine cw_region rfl ?_
        exact ⟨i + 1, ⟨rfl, rfl, slot_i64 _ _ (by omega) (by omega), trivial⟩, ⟨by omega, (((((((x1.trans x2).trans x3).trans x35).trans x8).trans x9).trans x10).trans x11).trans x12⟩, by omega⟩
  · refine cw_no rfl (by show ¬ (i : Int) < 2; omega) (cw_exit ?_)
    refine cw_seq (cw_region rfl ?_)
    conv => whnf
    refine ⟨_, rfl, _, awake_fn h1, ?_⟩
    rintro _ h2 ⟨rfl, x2⟩
    exact cw_ret ⟨rfl, (xa.trans x1).trans x2⟩
end Go.Proofs.Ytcmjgkjnnmfijaa
