/-
  The laws' asks of a pool that New did not give. Printed by tools/genasksun.py.
-/
import Derived.Test.YtcmjgkjnnmfijaaPoolUn
namespace Go.Proofs.Ytcmjgkjnnmfijaa
open Go Vm
set_option maxRecDepth 100000
set_option linter.unusedVariables false
set_option linter.unusedSimpArgs false
def askU (o : Opv) : Int := if (0 ≤ o.d ∧ o.d ≤ 6) ∨ o.d = 10 then 2 else 0
theorem asks_un {h : Heap} {pv kv : Value} (o : Opv) (U : Un h pv) (rk : RB h kv o.ks) (hks : o.ks.length ≤ 1000000000) :
    Fx Try.prog 13 #[pv, .agg (opC o kv).toArray] h fun u h' => u = .agg (toldC 0 false (.slice none 0 0) zeroW (askU o)).toArray ∧ ExtH h h' := by
  refine fn_of 114 Try.func13 rfl (by kernel_rfl) rfl (by simp) ?_
  obtain ⟨ka, kc, hke, _⟩ := rk.fix
  subst hke
  refine cw_seq (cw_region rfl ?_)
  conv => whnf
  intro ha na
  have ya : Blk ha h.size (opC o (.slice ka o.ks.length kc)) 41 := na.blk
  have xa := na.ext
  have za := na.size
  clear na
  conv => whnf
  intro hb nb
  have yb : Blk hb ha.size (toldC 0 false (.slice none 0 0) zeroW 0) 37 := nb.blk
  have xb := nb.ext
  have zb := nb.size
  clear nb
  refine cw_seq (cw_region rfl ?_)
  conv => whnf
  refine ⟨_, rfl, (toldC 0 false (.slice none 0 0) zeroW 0).toArray, fun w => by kernel_rfl, ?_⟩
  conv => whnf
  intro hc nc
  have xc := nc.ext
  have zc := nc.size
  conv => whnf
  refine ⟨_, _, nc.blk, ⟨by show 41 ≤ 41; decide, by rfl, by simp [toldC, wkC, Value.oneCell', zeroW, u8v]⟩, ?_⟩
  intro h1 w1
  replace w1 := w1.cast (l' := toldC 0 false (.slice none 0 0) zeroW 0) (by rfl)
  have z1 := w1.size
  clear nc
  have yo : Blk h1 h.size (opC o (.slice ka o.ks.length kc)) 41 := w1.blk (xc.blk (xb.blk ya)) (by omega)
  have yr : Blk h1 ha.size (toldC 0 false (.slice none 0 0) zeroW 0) 37 := w1.blk (xc.blk yb) (by omega)
  have yt := w1.new
  have x1 : ExtH h h1 := ⟨by omega, fun b hb => by rw [w1.block b (by omega), xc.block b (by omega), xb.block b (by omega), xa.block b hb]⟩
  have U1 := U.more x1
  have rk1 := rk.more x1
  have zt : hb.size = h.size + 2 := by omega
  have zr : ha.size = h.size + 1 := by omega
  have z01 : h1.size = h.size + 3 := by omega
  rw [zt] at yt
  rw [zr] at yr
  generalize hT : hb.size = tb at zt
  generalize hR : ha.size = rb at zr
  subst zt zr
  clear w1 xc xb xa ya yb za zb zc z1 hT hR
  refine cw_seq (cw_mono (Q := fun e fr h' => e = .normal ∧ Sub [(4, .pointer (some ⟨h.size + 1, 0, none⟩)), (5, .pointer (some ⟨h.size + 2, 0, none⟩))] fr ∧
      Blk h' (h.size + 2) (toldC 0 false (.slice none 0 0) zeroW (askU o)) 37 ∧ Blk h' (h.size + 1) (toldC 0 false (.slice none 0 0) zeroW 0) 37 ∧ ExtH h h') ?_ ?_)
  · refine cw_seq (cw_region rfl ?_)
    conv => whnf
    refine ⟨_, yo.rd (o := 0) rfl, ?_⟩
    refine cw_block ?_
    refine cw_seq (cw_region rfl ?_)
    by_cases hd0 : o.d = 0
    · have hd := hd0
      refine cw_beq_yes rfl hd ?_
      have es : askU o = 2 := by simp [askU, hd]
      refine cw_keeps (by kernel_rfl) 13 (fun b => b = h.size) (.q 0 (.q 1 (.q 2 (.q 3 (.q 4 (.q 5 (.i1 6 (.q 7 (.q 8 (.q 9 (.q 10 (.i1 11 (.q 12 .leaf))))))))))))) (by kernel_rfl) rfl ?_
      conv => whnf
      refine ⟨_, fun h' e => rfl, ?_⟩
      conv => whnf
      refine ⟨_, fun h' e => rfl, ?_⟩
      conv => whnf
      refine ⟨u8v o.k, fun h' e => ⟨_, (ExtP.blk' e yo rfl).rd (o := 3) rfl, rfl⟩, ?_⟩
      conv => whnf
      refine ⟨.agg ((kd o.k).map u8v).toArray, fun h' e => ⟨_, rfl, _, fun h'' x => key_fn o.k h'', rfl⟩, ?_⟩
      conv => whnf
      refine ⟨_, fun h' e => rfl, ?_⟩
      conv => whnf
      refine ⟨.int .i64 o.s, fun h' e => ⟨_, (ExtP.blk' e yo rfl).rd (o := 2) rfl, rfl⟩, ?_⟩
      conv => whnf
      intro h2 x2
      conv => whnf
      refine ⟨_, rfl, _, un_start (kd o.k) o.s (U1.more x2), ?_⟩
      rintro _ h3 ⟨rfl, c3⟩
      have z2 := x2.size
      have z3 := c3.size
      conv => whnf
      refine ⟨c3.toP _, ?_⟩
      intro h4 x4
      have z4 := x4.size
      conv => whnf
      refine ⟨_, fun h' e => rfl, ?_⟩
      conv => whnf
      refine ⟨_, fun h' e => rfl, ?_⟩
      conv => whnf
      refine ⟨_, fun h' e => rfl, ?_⟩
      conv => whnf
      refine ⟨_, fun h' e => rfl, ?_⟩
      conv => whnf
      intro h5 x5
      have z5 := x5.size
      conv => whnf
      refine ⟨_, _, (x4.trans x5).blk (c3.blk (x2.blk yt)), by show 0 < 41; decide, ?_⟩
      intro h6 w6
      replace w6 := w6.cast (l' := toldC 0 false (.slice none 0 0) zeroW 0) (by rfl)
      have z6 := w6.size
      conv => whnf
      refine ⟨⟨by omega, fun b hb hlt => w6.block b (by omega)⟩, ?_⟩
      intro h7 x7
      conv => whnf
      refine ⟨_, fun h' e => rfl, ?_⟩
      conv => whnf
      intro h8 x8
      conv => whnf
      refine ⟨_, _, (x7.trans x8).blk w6.new, by show 40 < 41; decide, ?_⟩
      intro h9 w9
      replace w9 := w9.cast (told_e zeroW_key _)
      have z7 := x7.size
      have z8 := x8.size
      have z9 := w9.size
      refine ⟨rfl, ⟨rfl, rfl, trivial⟩, ?_⟩
      rw [es]
      exact ⟨w9.new, w9.blk ((x7.trans x8).blk (w6.blk ((x4.trans x5).blk (c3.blk (x2.blk yr))) (by omega))) (by omega), ⟨by omega, fun b hb => by rw [w9.block b (by omega), (x7.trans x8).block b (by omega), w6.block b (by omega), (x4.trans x5).block b (by omega), c3.block b (by omega), x2.block b (by omega), x1.block b hb]⟩⟩
    refine cw_beq_no rfl hd0 ?_
    refine cw_seq (cw_region rfl ?_)
    by_cases hd1 : o.d = 1
    · have hd := hd1
      refine cw_beq_yes rfl hd ?_
      have es : askU o = 2 := by simp [askU, hd]
      refine cw_region rfl ?_
      conv => whnf
      refine ⟨_, yo.rd (o := 1) rfl, ?_⟩
      conv => whnf
      refine ⟨_, rfl, _, un_hello o.n U1, ?_⟩
      rintro _ h2 ⟨rfl, x2⟩
      conv => whnf
      refine ⟨_, _, x2.blk yt, by show 40 < 41; decide, ?_⟩
      intro h3 w3
      replace w3 := w3.cast (told_e zeroW_key _)
      refine ⟨rfl, ⟨rfl, rfl, trivial⟩, ?_⟩
      rw [es]
      exact ⟨w3.new, w3.blk (x2.blk yr) (by omega), ⟨by have := x2.size; have := w3.size; omega, fun b hb => by rw [w3.block b (by omega), x2.block b (by omega), x1.block b hb]⟩⟩
    refine cw_beq_no rfl hd1 ?_
    refine cw_seq (cw_region rfl ?_)
    by_cases hd2 : o.d = 2
    · have hd := hd2
      refine cw_beq_yes rfl hd ?_
      have es : askU o = 2 := by simp [askU, hd]
      refine cw_region rfl ?_
      conv => whnf
      refine ⟨_, yo.rd (o := 1) rfl, ?_⟩
      conv => whnf
      refine ⟨_, rfl, _, un_send o.n U1, ?_⟩
      rintro _ h2 ⟨rfl, x2⟩
      conv => whnf
      refine ⟨_, _, x2.blk yt, by show 40 < 41; decide, ?_⟩
      intro h3 w3
      replace w3 := w3.cast (told_e zeroW_key _)
      refine ⟨rfl, ⟨rfl, rfl, trivial⟩, ?_⟩
      rw [es]
      exact ⟨w3.new, w3.blk (x2.blk yr) (by omega), ⟨by have := x2.size; have := w3.size; omega, fun b hb => by rw [w3.block b (by omega), x2.block b (by omega), x1.block b hb]⟩⟩
    refine cw_beq_no rfl hd2 ?_
    refine cw_seq (cw_region rfl ?_)
    by_cases hd3 : o.d = 3
    · have hd := hd3
      refine cw_beq_yes rfl hd ?_
      have es : askU o = 2 := by simp [askU, hd]
      refine cw_region rfl ?_
      conv => whnf
      refine ⟨_, yo.rd (o := 1) rfl, ?_⟩
      conv => whnf
      refine ⟨_, rfl, _, un_done o.n U1, ?_⟩
      rintro _ h2 ⟨rfl, x2⟩
      conv => whnf
      refine ⟨_, _, x2.blk yt, by show 40 < 41; decide, ?_⟩
      intro h3 w3
      replace w3 := w3.cast (told_e zeroW_key _)
      refine ⟨rfl, ⟨rfl, rfl, trivial⟩, ?_⟩
      rw [es]
      exact ⟨w3.new, w3.blk (x2.blk yr) (by omega), ⟨by have := x2.size; have := w3.size; omega, fun b hb => by rw [w3.block b (by omega), x2.block b (by omega), x1.block b hb]⟩⟩
    refine cw_beq_no rfl hd3 ?_
    refine cw_seq (cw_region rfl ?_)
    by_cases hd4 : o.d = 4
    · have hd := hd4
      refine cw_beq_yes rfl hd ?_
      have es : askU o = 2 := by simp [askU, hd]
      refine cw_region rfl ?_
      conv => whnf
      refine ⟨_, yo.rd (o := 1) rfl, ?_⟩
      conv => whnf
      refine ⟨_, rfl, _, un_drain o.n U1, ?_⟩
      rintro _ h2 ⟨rfl, x2⟩
      conv => whnf
      refine ⟨_, _, x2.blk yt, by show 40 < 41; decide, ?_⟩
      intro h3 w3
      replace w3 := w3.cast (told_e zeroW_key _)
      refine ⟨rfl, ⟨rfl, rfl, trivial⟩, ?_⟩
      rw [es]
      exact ⟨w3.new, w3.blk (x2.blk yr) (by omega), ⟨by have := x2.size; have := w3.size; omega, fun b hb => by rw [w3.block b (by omega), x2.block b (by omega), x1.block b hb]⟩⟩
    refine cw_beq_no rfl hd4 ?_
    refine cw_seq (cw_region rfl ?_)
    by_cases hd5 : o.d = 5
    · have hd := hd5
      refine cw_beq_yes rfl hd ?_
      have es : askU o = 2 := by simp [askU, hd]
      refine cw_region rfl ?_
      conv => whnf
      refine ⟨_, yo.rd (o := 1) rfl, ?_⟩
      conv => whnf
      refine ⟨_, rfl, _, un_poison o.n U1, ?_⟩
      rintro _ h2 ⟨rfl, x2⟩
      conv => whnf
      refine ⟨_, _, x2.blk yt, by show 0 < 41; decide, ?_⟩
      intro h3 w3
      replace w3 := w3.cast (l' := toldC 0 false (.slice none 0 0) zeroW 0) (by rfl)
      conv => whnf
      refine ⟨_, _, w3.new, by show 40 < 41; decide, ?_⟩
      intro h4 w4
      replace w4 := w4.cast (told_e zeroW_key _)
      refine ⟨rfl, ⟨rfl, rfl, trivial⟩, ?_⟩
      rw [es]
      exact ⟨w4.new, w4.blk (w3.blk (x2.blk yr) (by omega)) (by omega), ⟨by have := x2.size; have := w3.size; have := w4.size; omega, fun b hb => by rw [w4.block b (by omega), w3.block b (by omega), x2.block b (by omega), x1.block b hb]⟩⟩
    refine cw_beq_no rfl hd5 ?_
    refine cw_seq (cw_region rfl ?_)
    by_cases hd6 : o.d = 6
    · have hd := hd6
      refine cw_beq_yes rfl hd ?_
      have es : askU o = 2 := by simp [askU, hd]
      refine cw_region rfl ?_
      conv => whnf
      refine ⟨_, yo.rd (o := 1) rfl, ?_⟩
      conv => whnf
      refine ⟨_, rfl, _, un_kill o.n U1, ?_⟩
      rintro _ h2 ⟨rfl, x2⟩
      conv => whnf
      refine ⟨_, _, x2.blk yt, by show 0 < 41; decide, ?_⟩
      intro h3 w3
      replace w3 := w3.cast (l' := toldC 0 false (.slice none 0 0) zeroW 0) (by rfl)
      conv => whnf
      refine ⟨_, _, w3.new, by show 40 < 41; decide, ?_⟩
      intro h4 w4
      replace w4 := w4.cast (told_e zeroW_key _)
      refine ⟨rfl, ⟨rfl, rfl, trivial⟩, ?_⟩
      rw [es]
      exact ⟨w4.new, w4.blk (w3.blk (x2.blk yr) (by omega)) (by omega), ⟨by have := x2.size; have := w3.size; have := w4.size; omega, fun b hb => by rw [w4.block b (by omega), w3.block b (by omega), x2.block b (by omega), x1.block b hb]⟩⟩
    refine cw_beq_no rfl hd6 ?_
    refine cw_seq (cw_region rfl ?_)
    by_cases hd7 : o.d = 7
    · have hd := hd7
      refine cw_beq_yes rfl hd ?_
      have es : askU o = 0 := by simp [askU, hd]
      refine cw_region rfl ?_
      conv => whnf
      refine ⟨_, rfl, _, un_tick U1, ?_⟩
      rintro _ h2 ⟨rfl, x2⟩
      conv => whnf
      refine ⟨_, _, x2.blk yt, by show 2 < 41; decide, ?_⟩
      intro h3 w3
      replace w3 := w3.cast (l' := toldC 0 false (.slice none 0 0) zeroW 0) (by rfl)
      refine ⟨rfl, ⟨rfl, rfl, trivial⟩, ?_⟩
      rw [es]
      exact ⟨w3.new, w3.blk (x2.blk yr) (by omega), ⟨by have := x2.size; have := w3.size; omega, fun b hb => by rw [w3.block b (by omega), x2.block b (by omega), x1.block b hb]⟩⟩
    refine cw_beq_no rfl hd7 ?_
    refine cw_seq (cw_region rfl ?_)
    by_cases hd8 : o.d = 8
    · have hd := hd8
      refine cw_beq_yes rfl hd ?_
      have es : askU o = 0 := by simp [askU, hd]
      refine cw_region rfl ?_
      conv => whnf
      refine ⟨_, yo.rd (o := 3) rfl, ?_⟩
      conv => whnf
      refine ⟨_, rfl, _, key_fn o.k h1, ?_⟩
      rintro _ h0 ⟨rfl, x0⟩
      conv => whnf
      refine ⟨_, rfl, _, un_pick (kd o.k) (U1.more x0), ?_⟩
      rintro _ h2 ⟨rfl, x2⟩
      replace x2 := x0.trans x2
      conv => whnf
      refine ⟨_, _, x2.blk yt, by show 0 < 41; decide, ?_⟩
      intro h3 w3
      replace w3 := w3.cast (l' := toldC 0 false (.slice none 0 0) zeroW 0) (by rfl)
      conv => whnf
      refine ⟨_, _, w3.new, by show 1 < 41; decide, ?_⟩
      intro h4 w4
      replace w4 := w4.cast (l' := toldC 0 false (.slice none 0 0) zeroW 0) (by rfl)
      refine ⟨rfl, ⟨rfl, rfl, trivial⟩, ?_⟩
      rw [es]
      exact ⟨w4.new, w4.blk (w3.blk (x2.blk yr) (by omega)) (by omega), ⟨by have := x2.size; have := w3.size; have := w4.size; omega, fun b hb => by rw [w4.block b (by omega), w3.block b (by omega), x2.block b (by omega), x1.block b hb]⟩⟩
    refine cw_beq_no rfl hd8 ?_
    refine cw_seq (cw_region rfl ?_)
    by_cases hd9 : o.d = 9
    · have hd := hd9
      refine cw_beq_yes rfl hd ?_
      have es : askU o = 0 := by simp [askU, hd]
      refine cw_region rfl ?_
      conv => whnf
      refine ⟨_, yo.rd (o := 4) rfl, ?_⟩
      conv => whnf
      refine ⟨_, rfl, _, keys_fn rk1 hks, ?_⟩
      rintro u0 h0 ⟨ok0, x0, f0⟩
      conv => whnf
      refine ⟨_, rfl, _, un_spare (U1.more x0), ?_⟩
      rintro _ h2 ⟨rfl, x2⟩
      replace x2 := x0.trans x2
      conv => whnf
      refine ⟨_, _, x2.blk yt, by show 0 < 41; decide, ?_⟩
      intro h3 w3
      replace w3 := w3.cast (l' := toldC 0 false (.slice none 0 0) zeroW 0) (by rfl)
      conv => whnf
      refine ⟨_, _, w3.new, by show 1 < 41; decide, ?_⟩
      intro h4 w4
      replace w4 := w4.cast (l' := toldC 0 false (.slice none 0 0) zeroW 0) (by rfl)
      refine ⟨rfl, ⟨rfl, rfl, trivial⟩, ?_⟩
      rw [es]
      exact ⟨w4.new, w4.blk (w3.blk (x2.blk yr) (by omega)) (by omega), ⟨by have := x2.size; have := w3.size; have := w4.size; omega, fun b hb => by rw [w4.block b (by omega), w3.block b (by omega), x2.block b (by omega), x1.block b hb]⟩⟩
    refine cw_beq_no rfl hd9 ?_
    refine cw_seq (cw_region rfl ?_)
    by_cases hd10 : o.d = 10
    · have hd := hd10
      refine cw_beq_yes rfl hd ?_
      have es : askU o = 2 := by simp [askU, hd]
      refine cw_region rfl ?_
      conv => whnf
      refine ⟨_, yo.rd (o := 1) rfl, ?_⟩
      conv => whnf
      refine ⟨_, rfl, _, un_look o.n U1, ?_⟩
      rintro _ h2 ⟨rfl, x2⟩
      conv => whnf
      refine ⟨_, _, x2.blk yt, ⟨by show 3 + (wkC zeroW).length ≤ 41; decide, by show (wkC zeroW).length = _; rfl, wkC_one _⟩, ?_⟩
      intro h3 w3
      replace w3 := w3.cast (l' := toldC 0 false (.slice none 0 0) zeroW 0) (told_w zeroW_key zeroW_key)
      conv => whnf
      refine ⟨_, _, w3.new, by show 40 < 41; decide, ?_⟩
      intro h4 w4
      replace w4 := w4.cast (told_e zeroW_key _)
      refine ⟨rfl, ⟨rfl, rfl, trivial⟩, ?_⟩
      rw [es]
      exact ⟨w4.new, w4.blk (w3.blk (x2.blk yr) (by omega)) (by omega), ⟨by have := x2.size; have := w3.size; have := w4.size; omega, fun b hb => by rw [w4.block b (by omega), w3.block b (by omega), x2.block b (by omega), x1.block b hb]⟩⟩
    refine cw_beq_no rfl hd10 (cw_skip ?_)
    have es : askU o = 0 := by unfold askU; rw [if_neg (by omega)]
    refine ⟨rfl, ⟨rfl, rfl, trivial⟩, ?_⟩
    rw [es]
    exact ⟨yt, yr, x1⟩
  · rintro e fr h2 ⟨rfl, hsub, yt2, yr2, x2⟩
    refine cw_keep _ hsub ?_
    generalize askU o = W at yt2
    refine cw_seq (cw_region rfl ?_)
    conv => whnf
    refine ⟨_, rfl, yt2.all, ?_⟩
    conv => whnf
    refine store_told yr2 zeroW_key (OI.nil h2) ?_
    intro h3 w3
    have z3 := w3.size
    have z2 := x2.size
    refine cw_ret ?_
    conv => whnf
    exact ⟨_, rfl, w3.new.all, rfl, ⟨by omega, fun b hb => by rw [w3.block b (by omega), x2.block b hb]⟩⟩
end Go.Proofs.Ytcmjgkjnnmfijaa
