/-
  The contract of the laws' asks. Printed by tools/genasks.py.
-/
import Derived.Test.YtcmjgkjnnmfijaaPoolSpare
namespace Go.Proofs.Ytcmjgkjnnmfijaa
open Go Vm
set_option maxRecDepth 100000
set_option linter.unusedVariables false
/-- a call: what, of which worker, slots, a key's first byte, keys -/
structure Opv where
  d : Int
  n : Int
  s : Int
  k : UInt8
  ks : List UInt8
/-- what a call answers -/
structure Told where
  n : Int
  s : Bool
  l : List Int
  w : Wk
  e : Int
def toldC (n : Int) (s : Bool) (lv : Value) (w : Wk) (e : Int) : List Value := .int .i64 n :: .bool s :: lv :: (wkC w ++ [.int .i64 e])
def opC (o : Opv) (kv : Value) : List Value := [.int .i64 o.d, .int .i64 o.n, .int .i64 o.s, u8v o.k, kv]
theorem told_e {n : Int} {s : Bool} {lv : Value} {w : Wk} {e : Int} (hk : w.key.length = 32) (e' : Int) : (toldC n s lv w e).set 40 (.int .i64 e') = toldC n s lv w e' := by
  show _ :: _ :: _ :: (wkC w ++ [Value.int .i64 e]).set 37 _ = _
  rw [List.set_append_right _ _ (by rw [wkC_length hk]; omega), wkC_length hk]
  rfl
theorem told_w {n : Int} {s : Bool} {lv : Value} {w w' : Wk} {e : Int} (hk : w.key.length = 32) (hk' : w'.key.length = 32) : splice (toldC n s lv w e) 3 (wkC w') = toldC n s lv w' e := by
  have h1 := wkC_length hk
  have h2 := wkC_length hk'
  unfold splice toldC
  rw [h2]
  show [_, _, _] ++ wkC w' ++ (wkC w ++ [Value.int .i64 e]).drop 37 = _
  rw [List.drop_append, List.drop_eq_nil_of_le (by omega), h1]
  simp
theorem told_length {n : Int} {s : Bool} {lv : Value} {w : Wk} {e : Int} (hk : w.key.length = 32) : (toldC n s lv w e).length = 41 := by
  have h1 := wkC_length hk
  simp [toldC, h1]
def askS (wk sl id : Int) (ws : List Wk) (o : Opv) : List Wk × Told :=
  if o.d = 0 then ((startS wk sl ws (kd o.k) o.s).1, ⟨(startS wk sl ws (kd o.k) o.s).2.1, false, [], zeroW, (startS wk sl ws (kd o.k) o.s).2.2⟩)
  else if o.d = 1 then ((helloS ws o.n).1, ⟨0, false, [], zeroW, (helloS ws o.n).2⟩)
  else if o.d = 2 then ((sendS ws o.n).1, ⟨0, false, [], zeroW, (sendS ws o.n).2⟩)
  else if o.d = 3 then ((doneS ws o.n).1, ⟨0, false, [], zeroW, (doneS ws o.n).2⟩)
  else if o.d = 4 then ((drainS ws o.n).1, ⟨0, false, [], zeroW, (drainS ws o.n).2⟩)
  else if o.d = 5 then ((endS ws o.n 5 [1, 2, 3, 4]).1, ⟨(endS ws o.n 5 [1, 2, 3, 4]).2.1, false, [], zeroW, (endS ws o.n 5 [1, 2, 3, 4]).2.2⟩)
  else if o.d = 6 then ((endS ws o.n 6 [1, 2, 3, 4, 5]).1, ⟨(endS ws o.n 6 [1, 2, 3, 4, 5]).2.1, false, [], zeroW, (endS ws o.n 6 [1, 2, 3, 4, 5]).2.2⟩)
  else if o.d = 7 then (ws.map (tickW id), ⟨0, false, tickOut id ws, zeroW, 0⟩)
  else if o.d = 8 then (ws, ⟨(pickB (kd o.k) ws).n, decide (0 < (pickB (kd o.k) ws).n), [], zeroW, 0⟩)
  else if o.d = 9 then (ws, ⟨(spareB (o.ks.map kd) ws).n, decide (0 < (spareB (o.ks.map kd) ws).n), [], zeroW, 0⟩)
  else if o.d = 10 then (ws, ⟨0, false, [], (lookS ws o.n).1, (lookS ws o.n).2⟩)
  else (ws, ⟨0, false, [], zeroW, 0⟩)
theorem look_key {ws : List Wk} (hk : keysOk ws) (n : Int) : (lookS ws n).1.key.length = 32 := by
  unfold lookS
  split
  · unfold atN
    rw [List.getD_eq_getElem?_getD]
    cases hw : ws[n.toNat - 1]? with
    | none => exact zeroW_key
    | some w => exact keysOk_get hk hw
  · exact zeroW_key
theorem asks_fn {h : Heap} {p : Nat} {v kv : Value} {wk sl id : Int} {ws : List Wk} (o : Opv) (A : PoolAt h p v wk sl id ws) (I : Inv wk sl id ws) (hs : ws.length ≤ 1000000000) (rk : RB h kv o.ks) (hks : o.ks.length ≤ 1000000000) :
    Fx Try.prog 13 #[.pointer (some ⟨p, 0, none⟩), .agg (opC o kv).toArray] h fun u h' => ∃ v' lv, u = .agg (toldC (askS wk sl id ws o).2.n (askS wk sl id ws o).2.s lv (askS wk sl id ws o).2.w (askS wk sl id ws o).2.e).toArray ∧
      PoolAt h' p v' wk sl id (askS wk sl id ws o).1 ∧ Turned h h' p v v' ∧ OI h' lv (askS wk sl id ws o).2.l ∧ ∀ b, ob lv b → h.size ≤ b ∧ ¬ ob v' b := by
  have hwk : 0 < wk := by have := I.lim.1; omega
  refine fn_of 114 Try.func13 rfl (by kernel_rfl) rfl (by simp) ?_
  obtain ⟨ka, kc, hke, _⟩ := rk.fix
  subst hke
  have hpl := A.blk.lt
  have hvl : ∀ b, ob v b → b < h.size := fun b hb => OwnS.lt A.own hb
  refine cw_seq (cw_region rfl ?_)
  conv => whnf
  intro ha na
  have ya : Blk ha h.size (opC o (.slice ka o.ks.length kc)) 41 := na.blk
  have xa := na.ext
  have za := na.size
  clear na
  conv => whnf
  intro hb nb
  have yb : Blk hb ha.size (toldC 0 false (.slice none 0 0) zeroW 0) 37 := nb.blk
  have xb := nb.ext
  have zb := nb.size
  clear nb
  refine cw_seq (cw_region rfl ?_)
  conv => whnf
  refine ⟨_, rfl, (toldC 0 false (.slice none 0 0) zeroW 0).toArray, fun w => by kernel_rfl, ?_⟩
  conv => whnf
  intro hc nc
  have xc := nc.ext
  have zc := nc.size
  conv => whnf
  refine ⟨_, _, nc.blk, ⟨by show 41 ≤ 41; decide, by rfl, by simp [toldC, wkC, Value.oneCell', zeroW, u8v]⟩, ?_⟩
  intro h1 w1
  replace w1 := w1.cast (l' := toldC 0 false (.slice none 0 0) zeroW 0) (by rfl)
  have z1 := w1.size
  clear nc
  have yo : Blk h1 h.size (opC o (.slice ka o.ks.length kc)) 41 := w1.blk (xc.blk (xb.blk ya)) (by omega)
  have yr : Blk h1 ha.size (toldC 0 false (.slice none 0 0) zeroW 0) 37 := w1.blk (xc.blk yb) (by omega)
  have yt := w1.new
  have x1 : ExtH h h1 := ⟨by omega, fun b hb => by rw [w1.block b (by omega), xc.block b (by omega), xb.block b (by omega), xa.block b hb]⟩
  have A1 := A.more x1
  have rk1 := rk.more x1
  have zt : hb.size = h.size + 2 := by omega
  have zr : ha.size = h.size + 1 := by omega
  have z01 : h1.size = h.size + 3 := by omega
  rw [zt] at yt
  rw [zr] at yr
  generalize hT : hb.size = tb at zt
  generalize hR : ha.size = rb at zr
  subst zt zr
  clear w1 xc xb xa ya yb za zb zc z1 hT hR
  have hpt : p ≠ h.size + 2 := by omega
  have hvt : ∀ b, ob v b → ¬ b = h.size + 2 := fun b hb e => by have := hvl b hb; omega
  have nvo : ¬ ob v h.size := fun e => by have := hvl _ e; omega
  have nvr : ¬ ob v (h.size + 1) := fun e => by have := hvl _ e; omega
  have nvt : ¬ ob v (h.size + 2) := fun e => by have := hvl _ e; omega
  refine cw_seq (cw_mono (Q := fun e fr h' => e = .normal ∧ Sub [(4, .pointer (some ⟨h.size + 1, 0, none⟩)), (5, .pointer (some ⟨h.size + 2, 0, none⟩))] fr ∧ ∃ v' lv,
      Blk h' (h.size + 2) (toldC (askS wk sl id ws o).2.n (askS wk sl id ws o).2.s lv (askS wk sl id ws o).2.w (askS wk sl id ws o).2.e) 37 ∧ (askS wk sl id ws o).2.w.key.length = 32 ∧ Blk h' (h.size + 1) (toldC 0 false (.slice none 0 0) zeroW 0) 37 ∧
      PoolAt h' p v' wk sl id (askS wk sl id ws o).1 ∧ Turned h h' p v v' ∧ OI h' lv (askS wk sl id ws o).2.l ∧ ∀ b, ob lv b → h.size ≤ b ∧ ¬ ob v' b) ?_ ?_)
  · refine cw_seq (cw_region rfl ?_)
    conv => whnf
    refine ⟨_, yo.rd (o := 0) rfl, ?_⟩
    refine cw_block ?_
    refine cw_seq (cw_region rfl ?_)
    by_cases hd0 : o.d = 0
    · have hd := hd0
      refine cw_beq_yes rfl hd ?_
      have es : askS wk sl id ws o = ((startS wk sl ws (kd o.k) o.s).1, ⟨(startS wk sl ws (kd o.k) o.s).2.1, false, [], zeroW, (startS wk sl ws (kd o.k) o.s).2.2⟩) := by simp [askS, hd]
      refine cw_keeps (by kernel_rfl) 13 (fun b => b = h.size) (.q 0 (.q 1 (.q 2 (.q 3 (.q 4 (.q 5 (.i1 6 (.q 7 (.q 8 (.q 9 (.q 10 (.i1 11 (.q 12 .leaf))))))))))))) (by kernel_rfl) rfl ?_
      conv => whnf
      refine ⟨_, fun h' e => rfl, ?_⟩
      conv => whnf
      refine ⟨_, fun h' e => rfl, ?_⟩
      conv => whnf
      refine ⟨u8v o.k, fun h' e => ⟨_, (ExtP.blk' e yo rfl).rd (o := 3) rfl, rfl⟩, ?_⟩
      conv => whnf
      refine ⟨.agg ((kd o.k).map u8v).toArray, fun h' e => ⟨_, rfl, _, fun h'' x => key_fn o.k h'', rfl⟩, ?_⟩
      conv => whnf
      refine ⟨_, fun h' e => rfl, ?_⟩
      conv => whnf
      refine ⟨.int .i64 o.s, fun h' e => ⟨_, (ExtP.blk' e yo rfl).rd (o := 2) rfl, rfl⟩, ?_⟩
      conv => whnf
      intro h2 x2
      conv => whnf
      refine ⟨_, rfl, _, start_fn (kd o.k) (kd_length _) o.s (A1.more x2) hwk hs, ?_⟩
      rintro _ h3 ⟨rfl, v', A3, c3, f3⟩
      have z2 := x2.size
      have z3 := c3.size
      have nc : ∀ b, h.size ≤ b → ¬ (b = p ∨ ob v b) := fun b hb e => by
        rcases e with e | e
        · omega
        · have := hvl b e; omega
      conv => whnf
      refine ⟨⟨c3.size, fun b hb hlt => c3.block b hlt (nc b (by omega))⟩, ?_⟩
      intro h4 x4
      have z4 := x4.size
      conv => whnf
      refine ⟨_, fun h' e => rfl, ?_⟩
      conv => whnf
      refine ⟨_, fun h' e => rfl, ?_⟩
      conv => whnf
      refine ⟨_, fun h' e => rfl, ?_⟩
      conv => whnf
      refine ⟨_, fun h' e => rfl, ?_⟩
      conv => whnf
      intro h5 x5
      have z5 := x5.size
      conv => whnf
      have hvt' : ∀ b, ob v' b → ¬ b = h.size + 2 := fun b hb e => by
        rcases f3 b hb with e' | e'
        · exact hvt b e' e
        · omega
      refine ⟨_, _, (x4.trans x5).blk (c3.blk (x2.blk yt) (nc _ (by omega))), by show 0 < 41; decide, ?_⟩
      intro h6 w6
      replace w6 := w6.cast (l' := toldC (startS wk sl ws (kd o.k) o.s).2.1 false (.slice none 0 0) zeroW 0) (by rfl)
      have z6 := w6.size
      conv => whnf
      refine ⟨⟨by omega, fun b hb hlt => w6.block b (by omega)⟩, ?_⟩
      intro h7 x7
      conv => whnf
      refine ⟨_, fun h' e => rfl, ?_⟩
      conv => whnf
      intro h8 x8
      conv => whnf
      refine ⟨_, _, (x7.trans x8).blk w6.new, by show 40 < 41; decide, ?_⟩
      intro h9 w9
      replace w9 := w9.cast (told_e zeroW_key _)
      have z7 := x7.size
      have z8 := x8.size
      have z9 := w9.size
      have c6 := w6.chg
      have c9 := w9.chg
      refine ⟨rfl, ⟨rfl, rfl, trivial⟩, v', .slice none 0 0, ?_⟩
      rw [es]
      exact ⟨w9.new, zeroW_key, w9.blk ((x7.trans x8).blk (w6.blk ((x4.trans x5).blk (c3.blk (x2.blk yr) (nc _ (by omega)))) (by omega))) (by omega), (((A3.more (x4.trans x5)).keep c6 hpt hvt').more (x7.trans x8)).keep c9 hpt hvt', ⟨⟨by omega, fun b hb hn => by rw [w9.block b (by omega), (x7.trans x8).block b (by omega), w6.block b (by omega), (x4.trans x5).block b (by omega), c3.block b (by omega) hn, x2.block b (by omega), x1.block b hb]⟩, fun b hb => (f3 b hb).elim .inl (fun e => .inr (by omega))⟩, OI.nil h9, fun b hb => (ob_nil hb).elim⟩
    refine cw_beq_no rfl hd0 ?_
    refine cw_seq (cw_region rfl ?_)
    by_cases hd1 : o.d = 1
    · have hd := hd1
      refine cw_beq_yes rfl hd ?_
      have es : askS wk sl id ws o = ((helloS ws o.n).1, ⟨0, false, [], zeroW, (helloS ws o.n).2⟩) := by simp [askS, hd]
      refine cw_region rfl ?_
      conv => whnf
      refine ⟨_, yo.rd (o := 1) rfl, ?_⟩
      conv => whnf
      refine ⟨_, rfl, _, hello_fn o.n A1 hwk, ?_⟩
      rintro _ h2 ⟨rfl, A2, c2⟩
      conv => whnf
      refine ⟨_, _, c2.blk yt nvt, by show 40 < 41; decide, ?_⟩
      intro h3 w3
      replace w3 := w3.cast (told_e zeroW_key _)
      have c3 := w3.chg
      refine ⟨rfl, ⟨rfl, rfl, trivial⟩, v, .slice none 0 0, ?_⟩
      rw [es]
      exact ⟨w3.new, zeroW_key, w3.blk (c2.blk yr nvr) (by omega), A2.keep c3 hpt hvt, Turned.of_chg ⟨by have := c2.size; have := w3.size; omega, fun b hb hn => by rw [w3.block b (by omega), c2.block b (by omega) hn, x1.block b hb]⟩, OI.nil h3, fun b hb => (ob_nil hb).elim⟩
    refine cw_beq_no rfl hd1 ?_
    refine cw_seq (cw_region rfl ?_)
    by_cases hd2 : o.d = 2
    · have hd := hd2
      refine cw_beq_yes rfl hd ?_
      have es : askS wk sl id ws o = ((sendS ws o.n).1, ⟨0, false, [], zeroW, (sendS ws o.n).2⟩) := by simp [askS, hd]
      refine cw_region rfl ?_
      conv => whnf
      refine ⟨_, yo.rd (o := 1) rfl, ?_⟩
      conv => whnf
      refine ⟨_, rfl, _, send_fn o.n A1 I, ?_⟩
      rintro _ h2 ⟨rfl, A2, c2⟩
      conv => whnf
      refine ⟨_, _, c2.blk yt nvt, by show 40 < 41; decide, ?_⟩
      intro h3 w3
      replace w3 := w3.cast (told_e zeroW_key _)
      have c3 := w3.chg
      refine ⟨rfl, ⟨rfl, rfl, trivial⟩, v, .slice none 0 0, ?_⟩
      rw [es]
      exact ⟨w3.new, zeroW_key, w3.blk (c2.blk yr nvr) (by omega), A2.keep c3 hpt hvt, Turned.of_chg ⟨by have := c2.size; have := w3.size; omega, fun b hb hn => by rw [w3.block b (by omega), c2.block b (by omega) hn, x1.block b hb]⟩, OI.nil h3, fun b hb => (ob_nil hb).elim⟩
    refine cw_beq_no rfl hd2 ?_
    refine cw_seq (cw_region rfl ?_)
    by_cases hd3 : o.d = 3
    · have hd := hd3
      refine cw_beq_yes rfl hd ?_
      have es : askS wk sl id ws o = ((doneS ws o.n).1, ⟨0, false, [], zeroW, (doneS ws o.n).2⟩) := by simp [askS, hd]
      refine cw_region rfl ?_
      conv => whnf
      refine ⟨_, yo.rd (o := 1) rfl, ?_⟩
      conv => whnf
      refine ⟨_, rfl, _, done_fn o.n A1 I, ?_⟩
      rintro _ h2 ⟨rfl, A2, c2⟩
      conv => whnf
      refine ⟨_, _, c2.blk yt nvt, by show 40 < 41; decide, ?_⟩
      intro h3 w3
      replace w3 := w3.cast (told_e zeroW_key _)
      have c3 := w3.chg
      refine ⟨rfl, ⟨rfl, rfl, trivial⟩, v, .slice none 0 0, ?_⟩
      rw [es]
      exact ⟨w3.new, zeroW_key, w3.blk (c2.blk yr nvr) (by omega), A2.keep c3 hpt hvt, Turned.of_chg ⟨by have := c2.size; have := w3.size; omega, fun b hb hn => by rw [w3.block b (by omega), c2.block b (by omega) hn, x1.block b hb]⟩, OI.nil h3, fun b hb => (ob_nil hb).elim⟩
    refine cw_beq_no rfl hd3 ?_
    refine cw_seq (cw_region rfl ?_)
    by_cases hd4 : o.d = 4
    · have hd := hd4
      refine cw_beq_yes rfl hd ?_
      have es : askS wk sl id ws o = ((drainS ws o.n).1, ⟨0, false, [], zeroW, (drainS ws o.n).2⟩) := by simp [askS, hd]
      refine cw_region rfl ?_
      conv => whnf
      refine ⟨_, yo.rd (o := 1) rfl, ?_⟩
      conv => whnf
      refine ⟨_, rfl, _, drain_fn o.n A1 hwk, ?_⟩
      rintro _ h2 ⟨rfl, A2, c2⟩
      conv => whnf
      refine ⟨_, _, c2.blk yt nvt, by show 40 < 41; decide, ?_⟩
      intro h3 w3
      replace w3 := w3.cast (told_e zeroW_key _)
      have c3 := w3.chg
      refine ⟨rfl, ⟨rfl, rfl, trivial⟩, v, .slice none 0 0, ?_⟩
      rw [es]
      exact ⟨w3.new, zeroW_key, w3.blk (c2.blk yr nvr) (by omega), A2.keep c3 hpt hvt, Turned.of_chg ⟨by have := c2.size; have := w3.size; omega, fun b hb hn => by rw [w3.block b (by omega), c2.block b (by omega) hn, x1.block b hb]⟩, OI.nil h3, fun b hb => (ob_nil hb).elim⟩
    refine cw_beq_no rfl hd4 ?_
    refine cw_seq (cw_region rfl ?_)
    by_cases hd5 : o.d = 5
    · have hd := hd5
      refine cw_beq_yes rfl hd ?_
      have es : askS wk sl id ws o = ((endS ws o.n 5 [1, 2, 3, 4]).1, ⟨(endS ws o.n 5 [1, 2, 3, 4]).2.1, false, [], zeroW, (endS ws o.n 5 [1, 2, 3, 4]).2.2⟩) := by simp [askS, hd]
      refine cw_region rfl ?_
      conv => whnf
      refine ⟨_, yo.rd (o := 1) rfl, ?_⟩
      conv => whnf
      refine ⟨_, rfl, _, poison_fn o.n A1 hwk, ?_⟩
      rintro _ h2 ⟨rfl, A2, c2⟩
      conv => whnf
      refine ⟨_, _, c2.blk yt nvt, by show 0 < 41; decide, ?_⟩
      intro h3 w3
      replace w3 := w3.cast (l' := toldC (endS ws o.n 5 [1, 2, 3, 4]).2.1 false (.slice none 0 0) zeroW 0) (by rfl)
      conv => whnf
      refine ⟨_, _, w3.new, by show 40 < 41; decide, ?_⟩
      intro h4 w4
      replace w4 := w4.cast (told_e zeroW_key _)
      have c3 := w3.chg
      have c4 := w4.chg
      refine ⟨rfl, ⟨rfl, rfl, trivial⟩, v, .slice none 0 0, ?_⟩
      rw [es]
      exact ⟨w4.new, zeroW_key, w4.blk (w3.blk (c2.blk yr nvr) (by omega)) (by omega), (A2.keep c3 hpt hvt).keep c4 hpt hvt, Turned.of_chg ⟨by have := c2.size; have := w3.size; have := w4.size; omega, fun b hb hn => by rw [w4.block b (by omega), w3.block b (by omega), c2.block b (by omega) hn, x1.block b hb]⟩, OI.nil h4, fun b hb => (ob_nil hb).elim⟩
    refine cw_beq_no rfl hd5 ?_
    refine cw_seq (cw_region rfl ?_)
    by_cases hd6 : o.d = 6
    · have hd := hd6
      refine cw_beq_yes rfl hd ?_
      have es : askS wk sl id ws o = ((endS ws o.n 6 [1, 2, 3, 4, 5]).1, ⟨(endS ws o.n 6 [1, 2, 3, 4, 5]).2.1, false, [], zeroW, (endS ws o.n 6 [1, 2, 3, 4, 5]).2.2⟩) := by simp [askS, hd]
      refine cw_region rfl ?_
      conv => whnf
      refine ⟨_, yo.rd (o := 1) rfl, ?_⟩
      conv => whnf
      refine ⟨_, rfl, _, kill_fn o.n A1 hwk, ?_⟩
      rintro _ h2 ⟨rfl, A2, c2⟩
      conv => whnf
      refine ⟨_, _, c2.blk yt nvt, by show 0 < 41; decide, ?_⟩
      intro h3 w3
      replace w3 := w3.cast (l' := toldC (endS ws o.n 6 [1, 2, 3, 4, 5]).2.1 false (.slice none 0 0) zeroW 0) (by rfl)
      conv => whnf
      refine ⟨_, _, w3.new, by show 40 < 41; decide, ?_⟩
      intro h4 w4
      replace w4 := w4.cast (told_e zeroW_key _)
      have c3 := w3.chg
      have c4 := w4.chg
      refine ⟨rfl, ⟨rfl, rfl, trivial⟩, v, .slice none 0 0, ?_⟩
      rw [es]
      exact ⟨w4.new, zeroW_key, w4.blk (w3.blk (c2.blk yr nvr) (by omega)) (by omega), (A2.keep c3 hpt hvt).keep c4 hpt hvt, Turned.of_chg ⟨by have := c2.size; have := w3.size; have := w4.size; omega, fun b hb hn => by rw [w4.block b (by omega), w3.block b (by omega), c2.block b (by omega) hn, x1.block b hb]⟩, OI.nil h4, fun b hb => (ob_nil hb).elim⟩
    refine cw_beq_no rfl hd6 ?_
    refine cw_seq (cw_region rfl ?_)
    by_cases hd7 : o.d = 7
    · have hd := hd7
      refine cw_beq_yes rfl hd ?_
      have es : askS wk sl id ws o = (ws.map (tickW id), ⟨0, false, tickOut id ws, zeroW, 0⟩) := by simp [askS, hd]
      refine cw_region rfl ?_
      conv => whnf
      refine ⟨_, rfl, _, tick_fn A1 I hs, ?_⟩
      rintro u h2 ⟨o2, A2, c2, f2⟩
      obtain ⟨ua, uc, rfl, _⟩ := (OwnS.src o2).form
      conv => whnf
      refine ⟨_, _, c2.blk yt nvt, by show 2 < 41; decide, ?_⟩
      intro h3 w3
      replace w3 := w3.cast (l' := toldC 0 false (.slice ua (tickOut id ws).length uc) zeroW 0) (by rfl)
      have c3 := w3.chg
      refine ⟨rfl, ⟨rfl, rfl, trivial⟩, v, .slice ua (tickOut id ws).length uc, ?_⟩
      rw [es]
      exact ⟨w3.new, zeroW_key, w3.blk (c2.blk yr nvr) (by omega), A2.keep c3 hpt hvt, Turned.of_chg ⟨by have := c2.size; have := w3.size; omega, fun b hb hn => by rw [w3.block b (by omega), c2.block b (by omega) hn, x1.block b hb]⟩, o2.keep c3 (fun b hb e => by have := f2 b hb; omega), fun b hb => ⟨by have := f2 b hb; omega, fun e => by have := f2 b hb; have := hvl b e; omega⟩⟩
    refine cw_beq_no rfl hd7 ?_
    refine cw_seq (cw_region rfl ?_)
    by_cases hd8 : o.d = 8
    · have hd := hd8
      refine cw_beq_yes rfl hd ?_
      have es : askS wk sl id ws o = (ws, ⟨(pickB (kd o.k) ws).n, decide (0 < (pickB (kd o.k) ws).n), [], zeroW, 0⟩) := by simp [askS, hd]
      refine cw_region rfl ?_
      conv => whnf
      refine ⟨_, yo.rd (o := 3) rfl, ?_⟩
      conv => whnf
      refine ⟨_, rfl, _, key_fn o.k h1, ?_⟩
      rintro _ h0 ⟨rfl, x0⟩
      conv => whnf
      refine ⟨_, rfl, _, pick_fn (kd o.k) (kd_length _) (A1.more x0) hwk, ?_⟩
      rintro _ h2 ⟨rfl, x2⟩
      replace x2 := x0.trans x2
      conv => whnf
      refine ⟨_, _, x2.blk yt, by show 0 < 41; decide, ?_⟩
      intro h3 w3
      replace w3 := w3.cast (l' := toldC (pickB (kd o.k) ws).n false (.slice none 0 0) zeroW 0) (by rfl)
      conv => whnf
      refine ⟨_, _, w3.new, by show 1 < 41; decide, ?_⟩
      intro h4 w4
      replace w4 := w4.cast (l' := toldC (pickB (kd o.k) ws).n (decide (0 < (pickB (kd o.k) ws).n)) (.slice none 0 0) zeroW 0) (by rfl)
      have c3 := w3.chg
      have c4 := w4.chg
      refine ⟨rfl, ⟨rfl, rfl, trivial⟩, v, .slice none 0 0, ?_⟩
      rw [es]
      exact ⟨w4.new, zeroW_key, w4.blk (w3.blk (x2.blk yr) (by omega)) (by omega), ((A1.more x2).keep c3 hpt hvt).keep c4 hpt hvt, Turned.of_chg ⟨by have := x2.size; have := w3.size; have := w4.size; omega, fun b hb hn => by rw [w4.block b (by omega), w3.block b (by omega), x2.block b (by omega), x1.block b hb]⟩, OI.nil h4, fun b hb => (ob_nil hb).elim⟩
    refine cw_beq_no rfl hd8 ?_
    refine cw_seq (cw_region rfl ?_)
    by_cases hd9 : o.d = 9
    · have hd := hd9
      refine cw_beq_yes rfl hd ?_
      have es : askS wk sl id ws o = (ws, ⟨(spareB (o.ks.map kd) ws).n, decide (0 < (spareB (o.ks.map kd) ws).n), [], zeroW, 0⟩) := by simp [askS, hd]
      refine cw_region rfl ?_
      conv => whnf
      refine ⟨_, yo.rd (o := 4) rfl, ?_⟩
      conv => whnf
      refine ⟨_, rfl, _, keys_fn rk1 hks, ?_⟩
      rintro u0 h0 ⟨ok0, x0, f0⟩
      conv => whnf
      refine ⟨_, rfl, _, spare_fn ok0.r (all32_kd _) (A1.more x0) hwk, ?_⟩
      rintro _ h2 ⟨rfl, x2⟩
      replace x2 := x0.trans x2
      conv => whnf
      refine ⟨_, _, x2.blk yt, by show 0 < 41; decide, ?_⟩
      intro h3 w3
      replace w3 := w3.cast (l' := toldC (spareB (o.ks.map kd) ws).n false (.slice none 0 0) zeroW 0) (by rfl)
      conv => whnf
      refine ⟨_, _, w3.new, by show 1 < 41; decide, ?_⟩
      intro h4 w4
      replace w4 := w4.cast (l' := toldC (spareB (o.ks.map kd) ws).n (decide (0 < (spareB (o.ks.map kd) ws).n)) (.slice none 0 0) zeroW 0) (by rfl)
      have c3 := w3.chg
      have c4 := w4.chg
      refine ⟨rfl, ⟨rfl, rfl, trivial⟩, v, .slice none 0 0, ?_⟩
      rw [es]
      exact ⟨w4.new, zeroW_key, w4.blk (w3.blk (x2.blk yr) (by omega)) (by omega), ((A1.more x2).keep c3 hpt hvt).keep c4 hpt hvt, Turned.of_chg ⟨by have := x2.size; have := w3.size; have := w4.size; omega, fun b hb hn => by rw [w4.block b (by omega), w3.block b (by omega), x2.block b (by omega), x1.block b hb]⟩, OI.nil h4, fun b hb => (ob_nil hb).elim⟩
    refine cw_beq_no rfl hd9 ?_
    refine cw_seq (cw_region rfl ?_)
    by_cases hd10 : o.d = 10
    · have hd := hd10
      refine cw_beq_yes rfl hd ?_
      have es : askS wk sl id ws o = (ws, ⟨0, false, [], (lookS ws o.n).1, (lookS ws o.n).2⟩) := by simp [askS, hd]
      have hlk := look_key A.keys o.n
      refine cw_region rfl ?_
      conv => whnf
      refine ⟨_, yo.rd (o := 1) rfl, ?_⟩
      conv => whnf
      refine ⟨_, rfl, _, look_fn o.n A1 hwk, ?_⟩
      rintro _ h2 ⟨rfl, x2⟩
      conv => whnf
      refine ⟨_, _, x2.blk yt, ⟨by show 3 + (wkC (lookS ws o.n).1).length ≤ 41; rw [wkC_length hlk]; omega, by show (wkC (lookS ws o.n).1).length = _; rw [wkC_length hlk]; rfl, wkC_one _⟩, ?_⟩
      intro h3 w3
      replace w3 := w3.cast (l' := toldC 0 false (.slice none 0 0) (lookS ws o.n).1 0) (told_w zeroW_key hlk)
      conv => whnf
      refine ⟨_, _, w3.new, by show 40 < (toldC _ _ _ _ _).length; rw [told_length hlk]; decide, ?_⟩
      intro h4 w4
      replace w4 := w4.cast (told_e hlk _)
      have c3 := w3.chg
      have c4 := w4.chg
      refine ⟨rfl, ⟨rfl, rfl, trivial⟩, v, .slice none 0 0, ?_⟩
      rw [es]
      exact ⟨w4.new, hlk, w4.blk (w3.blk (x2.blk yr) (by omega)) (by omega), ((A1.more x2).keep c3 hpt hvt).keep c4 hpt hvt, Turned.of_chg ⟨by have := x2.size; have := w3.size; have := w4.size; omega, fun b hb hn => by rw [w4.block b (by omega), w3.block b (by omega), x2.block b (by omega), x1.block b hb]⟩, OI.nil h4, fun b hb => (ob_nil hb).elim⟩
    refine cw_beq_no rfl hd10 (cw_skip ?_)
    have es : askS wk sl id ws o = (ws, ⟨0, false, [], zeroW, 0⟩) := by simp [askS, *]
    refine ⟨rfl, ⟨rfl, rfl, trivial⟩, v, .slice none 0 0, ?_⟩
    rw [es]
    exact ⟨yt, zeroW_key, yr, A1, Turned.of_chg x1.chg, OI.nil h1, fun b hb => (ob_nil hb).elim⟩
  · rintro e fr h2 ⟨rfl, hsub, v', lv, yt2, hk2, yr2, A2, t2, o2, f2⟩
    refine cw_keep _ hsub ?_
    generalize askS wk sl id ws o = W at yt2 hk2 A2 o2
    refine cw_seq (cw_region rfl ?_)
    conv => whnf
    have hlen := told_length (n := W.2.n) (s := W.2.s) (lv := lv) (w := W.2.w) (e := W.2.e) hk2
    refine ⟨_, by rw [hlen]; rfl, yt2.all, ?_⟩
    conv => whnf
    refine ⟨_, _, yr2, ⟨by show 0 + (toldC _ _ _ _ _).length ≤ 41; rw [hlen]; decide, by show (toldC _ _ _ _ _).length = _; rw [hlen]; rfl, ?_⟩, ?_⟩
    · intro x hx
      have hx' : x ∈ toldC W.2.n W.2.s lv W.2.w W.2.e := hx
      obtain ⟨la, lc, rfl, _⟩ := (OwnS.src o2).form
      simp only [toldC, List.mem_cons, List.mem_append, List.not_mem_nil, or_false] at hx'
      rcases hx' with rfl | rfl | rfl | hx' | rfl
      · rfl
      · rfl
      · rfl
      · exact wkC_one _ x hx'
      · rfl
    intro h3 w3
    replace w3 := w3.cast (l' := toldC W.2.n W.2.s lv W.2.w W.2.e) (by
      unfold splice
      show [] ++ toldC W.2.n W.2.s lv W.2.w W.2.e ++ List.drop (0 + (toldC W.2.n W.2.s lv W.2.w W.2.e).length) _ = _
      rw [hlen]
      simp [toldC, wkC, zeroW])
    have z3 := w3.size
    have hvr : ∀ b, ob v' b → ¬ b = h.size + 1 := fun b hb e => by
      subst e
      exact OwnS.ne A2.own yr2 (by decide) hb
    have c3 := w3.chg
    refine cw_ret ?_
    conv => whnf
    refine ⟨_, by rw [hlen]; rfl, w3.new.all, v', lv, rfl, A2.keep c3 (by omega) hvr, ⟨⟨by have := t2.1.size; omega, fun b hb hn => by rw [w3.block b (by omega), t2.1.block b hb hn]⟩, t2.2⟩, o2.keep c3 (fun b hb e => by
      subst e
      exact OwnS.ne o2 yr2 (by decide) hb), f2⟩
end Go.Proofs.Ytcmjgkjnnmfijaa
