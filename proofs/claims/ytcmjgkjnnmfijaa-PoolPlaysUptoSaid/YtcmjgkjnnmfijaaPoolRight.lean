/-
  The contracts of the laws' right and is. Printed by tools/genright.py.
-/
import Derived.Test.YtcmjgkjnnmfijaaPoolRef5
namespace Go.Proofs.Ytcmjgkjnnmfijaa
open Go Vm
set_option maxRecDepth 100000
set_option linter.unusedVariables false
set_option linter.unusedSimpArgs false
set_option maxHeartbeats 1000000
theorem look_eq {wk sl id : Int} {ws : List Wk} (I : Inv wk sl id ws) (n : Int) : rlookS ws n = lookS ws n := by
  by_cases hr : n < 1 ∨ (ws.length : Int) < n
  · rw [rlook_no hr]
    unfold lookS
    rw [find_no hr]
    rfl
  · obtain ⟨i, w, rfl, hw⟩ := place hr
    rw [rlook_yes hw, look_at hw (I.st w (List.mem_of_getElem? hw))]
theorem allH {h h' : Heap} (e : ExtP (fun _ => True) h h') : ExtH h h' := ⟨e.size, fun b hb => e.block b trivial hb⟩
theorem is2_fn {h : Heap} {p : Nat} {v wv : Value} {wk sl id : Int} {ws : List Wk} (A : PoolAt h p v wk sl id ws) (o : OW h wv ws) (I : Inv wk sl id ws) (hs : ws.length ≤ 1000000000) :
    Fx Try.prog 25 #[.pointer (some ⟨p, 0, none⟩), .agg (refC wk sl id wv).toArray] h fun u h' => u = .bool true ∧ ExtH h h' := by
  have hwk : 0 < wk := by have := I.lim.1; omega
  refine fn_of 17 Try.func25 rfl (by kernel_rfl) rfl (by simp) ?_
  obtain ⟨va, vc, hve, hvm⟩ := o.fix
  subst hve
  have kL := keysOk_filter A.keys shown
  refine cw_seq (cw_region rfl ?_)
  conv => whnf
  intro h1 n1
  have y1 : Blk h1 h.size (refC wk sl id (.slice va ws.length vc)) 53 := n1.blk
  have x1 := n1.ext
  clear n1
  conv => whnf
  have A1 := A.more x1
  have o1 := o.more x1
  refine cw_seq (cw_keeps (by kernel_rfl) 12 (fun _ => True) (.q 0 (.q 2 (.i1 1 (.i1 3 (.i1 4 (.q 5 (.q 6 (.q 7 (.q 8 (.q 9 (.q 10 (.q 11 .leaf)))))))))))) (by kernel_rfl) rfl ?_)
  conv => whnf
  refine ⟨_, fun h' e => rfl, ?_⟩
  conv => whnf
  refine ⟨.agg (refC wk sl id (.slice va ws.length vc)).toArray, fun h' e => ⟨refC wk sl id (.slice va ws.length vc), rfl, ((allH e).blk y1).all, rfl⟩, ?_⟩
  conv => whnf
  · intro h2 x2
    refine ⟨_, rfl, _, all_fn (A1.more x2) hwk hs, ?_⟩
    rintro u3 h3 ⟨o3, x3, f3⟩
    refine ⟨x3.toP _, ?_⟩
    intro h4 x4
    conv => whnf
    intro h5 x5
    refine ⟨_, rfl, _, rall_fn ((((o1.more x2).more x3).more x4).more x5) A.keys I hs, ?_⟩
    rintro u6 h6 ⟨o6, x6, f6⟩
    refine ⟨x6.toP _, ?_⟩
    intro h7 x7
    conv => whnf
    intro h8 x8
    obtain ⟨a3, c3, e3, _⟩ := o3.fix
    subst e3
    obtain ⟨a6, c6, e6, _⟩ := o6.fix
    subst e6
    refine ⟨_, rfl, _, rsame_yes (((((o3.more x4).more x5).more x6).more x7).more x8) ((o6.more x7).more x8) kL, ?_⟩
    rintro _ h8' ⟨rfl, x8'⟩
    refine ⟨x8'.toP _, ?_⟩
    have fin : ∀ h9, ExtH h8' h9 → ExtH h h9 := fun h9 x9 => ((((((((x1.trans x2).trans x3).trans x4).trans x5).trans x6).trans x7).trans x8).trans x8').trans x9
    intro h8'' x8''
    replace fin : ∀ h9, ExtH h8'' h9 → ExtH h h9 := fun h9 x9 => fin h9 (x8''.trans x9)
    conv => whnf
    refine ⟨_, fun h' e => rfl, ?_⟩
    conv => whnf
    refine ⟨_, fun h' e => rfl, ?_⟩
    conv => whnf
    refine ⟨.int .i64 (ws.countP isLive : Int), fun h' e => ⟨_, rfl, _, fun h'' x => live_fn ((A1.more (allH e)).more x) hwk, rfl⟩, ?_⟩
    conv => whnf
    refine ⟨.agg (refC wk sl id (.slice va ws.length vc)).toArray, fun h' e => ⟨refC wk sl id (.slice va ws.length vc), rfl, ((allH e).blk y1).all, rfl⟩, ?_⟩
    conv => whnf
    refine ⟨.int .i64 (ws.countP isLive : Int), fun h' e => ⟨_, rfl, _, fun h'' x => rlive_fn ((o1.more (allH e)).more x) A.keys, rfl⟩, ?_⟩
    conv => whnf
    refine ⟨.bool true, fun h' e => by show Value.bool (((ws.countP isLive : Nat) : Int) == ((ws.countP isLive : Nat) : Int)) = _; rw [beq_self_eq_true], ?_⟩
    conv => whnf
    refine ⟨_, fun h' e => rfl, ?_⟩
    conv => whnf
    intro h9 x9
    conv => whnf
    exact cw_ret ⟨rfl, fin h9 x9⟩
theorem right_fn {h : Heap} {wv kv : Value} {wk sl id : Int} {ws : List Wk} (o : Opv) (ow : OW h wv ws) (kk : keysOk ws) (I : Inv wk sl id ws) (hs : ws.length ≤ 1000000000) (rk : RB h kv o.ks) (hks : o.ks.length ≤ 1000000000) :
    Fx Try.prog 23 #[.agg (refC wk sl id wv).toArray, .agg (opC o kv).toArray] h fun u h' => ∃ wv' lv, u = .tuple #[.agg (refC wk sl id wv').toArray, .agg (toldC (askS wk sl id ws o).2.n (askS wk sl id ws o).2.s lv (askS wk sl id ws o).2.w (askS wk sl id ws o).2.e).toArray] ∧
      OW h' wv' (askS wk sl id ws o).1 ∧ OI h' lv (askS wk sl id ws o).2.l ∧ ExtH h h' ∧ (∀ b, ob wv' b → ob wv b ∨ h.size ≤ b) ∧ ∀ b, ob lv b → h.size ≤ b := by
  refine fn_of 134 Try.func23 rfl (by kernel_rfl) rfl (by simp) ?_
  obtain ⟨ka, kc, hke, _⟩ := rk.fix
  subst hke
  obtain ⟨va, vc, hve, hvm⟩ := ow.fix
  subst hve
  refine cw_seq (cw_region rfl ?_)
  conv => whnf
  intro ha na
  have ya : Blk ha h.size (refC wk sl id (.slice va ws.length vc)) 53 := na.blk
  have xa := na.ext
  have za := na.size
  clear na
  conv => whnf
  intro hb nb
  have yb : Blk hb ha.size (opC o (.slice ka o.ks.length kc)) 41 := nb.blk
  have xb := nb.ext
  have zb := nb.size
  clear nb
  conv => whnf
  intro hc nc
  have yc : Blk hc hb.size (refC 0 0 0 (.slice none 0 0)) 53 := nc.blk
  have xc := nc.ext
  have zc := nc.size
  clear nc
  conv => whnf
  intro hd nd
  have yd : Blk hd hc.size (toldC 0 false (.slice none 0 0) zeroW 0) 37 := nd.blk
  have xd := nd.ext
  have zd := nd.size
  clear nd
  refine cw_seq (cw_region rfl ?_)
  conv => whnf
  refine ⟨_, rfl, (toldC 0 false (.slice none 0 0) zeroW 0).toArray, fun w => by kernel_rfl, ?_⟩
  conv => whnf
  intro he ne
  have xe := ne.ext
  have ze := ne.size
  conv => whnf
  refine store_told ne.blk zeroW_key (OI.nil he) ?_
  intro h1 w1
  have z1 := w1.size
  clear ne
  have yp : Blk h1 h.size (refC wk sl id (.slice va ws.length vc)) 53 := w1.blk (xe.blk (xd.blk (xc.blk (xb.blk ya)))) (by omega)
  have yo : Blk h1 ha.size (opC o (.slice ka o.ks.length kc)) 41 := w1.blk (xe.blk (xd.blk (xc.blk yb))) (by omega)
  have yr : Blk h1 hb.size (refC 0 0 0 (.slice none 0 0)) 53 := w1.blk (xe.blk (xd.blk yc)) (by omega)
  have ys : Blk h1 hc.size (toldC 0 false (.slice none 0 0) zeroW 0) 37 := w1.blk (xe.blk yd) (by omega)
  have yt := w1.new
  have x1 : ExtH h h1 := ⟨by omega, fun b hb' => by rw [w1.block b (by omega), xe.block b (by omega), xd.block b (by omega), xc.block b (by omega), xb.block b (by omega), xa.block b hb']⟩
  have o1 := ow.more x1
  have rk1 := rk.more x1
  have e1 : ha.size = h.size + 1 := by omega
  have e2 : hb.size = h.size + 2 := by omega
  have e3 : hc.size = h.size + 3 := by omega
  have e4 : hd.size = h.size + 4 := by omega
  have z01 : h1.size = h.size + 5 := by omega
  rw [e1] at yo
  rw [e2] at yr
  rw [e3] at ys
  rw [e4] at yt
  generalize hT : ha.size = t1 at e1
  generalize hT2 : hb.size = t2 at e2
  generalize hT3 : hc.size = t3 at e3
  generalize hT4 : hd.size = t4 at e4
  subst e1 e2 e3 e4
  clear w1 xe xd xc xb xa ya yb yc yd za zb zc zd ze z1 hT hT2 hT3 hT4
  have hol : ∀ b, ob (.slice va ws.length vc) b → b < h.size := fun b hb => OwnS.lt ow hb
  refine cw_seq (cw_mono (Q := fun e fr h' => e = .normal ∧ Sub [(2, .pointer (some ⟨h.size, 0, none⟩)), (4, .pointer (some ⟨h.size + 2, 0, none⟩)), (5, .pointer (some ⟨h.size + 3, 0, none⟩)), (6, .pointer (some ⟨h.size + 4, 0, none⟩))] fr ∧ ∃ wv' lv,
      Blk h' h.size (refC wk sl id wv') 53 ∧ Blk h' (h.size + 4) (toldC (askS wk sl id ws o).2.n (askS wk sl id ws o).2.s lv (askS wk sl id ws o).2.w (askS wk sl id ws o).2.e) 37 ∧ (askS wk sl id ws o).2.w.key.length = 32 ∧ Blk h' (h.size + 2) (refC 0 0 0 (.slice none 0 0)) 53 ∧ Blk h' (h.size + 3) (toldC 0 false (.slice none 0 0) zeroW 0) 37 ∧
      OW h' wv' (askS wk sl id ws o).1 ∧ OI h' lv (askS wk sl id ws o).2.l ∧ ExtH h h' ∧ (∀ b, ob wv' b → ob (.slice va ws.length vc) b ∨ h1.size ≤ b) ∧ ∀ b, ob lv b → h1.size ≤ b) ?_ ?_)
  · refine cw_seq (cw_region rfl ?_)
    conv => whnf
    refine ⟨_, yo.rd (o := 0) rfl, ?_⟩
    refine cw_block ?_
    refine cw_seq (cw_region rfl ?_)
    by_cases hd0 : o.d = 0
    · have hd := hd0
      refine cw_beq_yes rfl hd ?_
      have es : askS wk sl id ws o = ((startS wk sl ws (kd o.k) o.s).1, ⟨(startS wk sl ws (kd o.k) o.s).2.1, false, [], zeroW, (startS wk sl ws (kd o.k) o.s).2.2⟩) := by simp [askS, hd]
      refine cw_keeps (by kernel_rfl) 15 (fun b => b = h.size + 1) (.q 1 (.q 2 (.q 3 (.q 4 (.q 5 (.i1 0 (.i1 6 (.q 7 (.q 8 (.q 9 (.q 10 (.i1 11 (.q 12 (.i1 13 (.q 14 .leaf))))))))))))))) (by kernel_rfl) rfl ?_
      conv => whnf
      refine ⟨_, fun h' e => rfl, ?_⟩
      conv => whnf
      refine ⟨u8v o.k, fun h' e => ⟨_, (ExtP.blk' e yo rfl).rd (o := 3) rfl, rfl⟩, ?_⟩
      conv => whnf
      refine ⟨.agg ((kd o.k).map u8v).toArray, fun h' e => ⟨_, rfl, _, fun h'' x => key_fn o.k h'', rfl⟩, ?_⟩
      conv => whnf
      refine ⟨_, fun h' e => rfl, ?_⟩
      conv => whnf
      refine ⟨.int .i64 o.s, fun h' e => ⟨_, (ExtP.blk' e yo rfl).rd (o := 2) rfl, rfl⟩, ?_⟩
      conv => whnf
      intro h2 x2
      conv => whnf
      refine ⟨refC wk sl id (.slice va ws.length vc), rfl, (x2.blk yp).all, ?_⟩
      refine ⟨(ExtH.refl _).toP _, ?_⟩
      intro h3 x3
      conv => whnf
      intro h4 x4
      conv => whnf
      have x14 := (x2.trans x3).trans x4
      refine ⟨_, rfl, _, rstart_fn (kd o.k) (kd_length _) o.s (o1.more x14) kk hs, ?_⟩
      rintro _ h5 ⟨wv', rfl, o5, x5, f5⟩
      have z14 := x14.size
      have z5 := x5.size
      obtain ⟨a5, c5, e5, _⟩ := OW.fix o5
      subst e5
      have f5' : ∀ b, ob (.slice a5 (startS wk sl ws (kd o.k) o.s).1.length c5) b → ob (.slice va ws.length vc) b ∨ h1.size ≤ b := fun b hb => (f5 b hb).imp (fun e => e) (fun e => by omega)
      have lo5 : ∀ b, ob (.slice a5 (startS wk sl ws (kd o.k) o.s).1.length c5) b → b < h.size ∨ h1.size ≤ b := fun b hb => (f5' b hb).imp (hol b) (fun e => e)
      refine ⟨x5.toP _, ?_⟩
      intro h6 x6
      have z6 := x6.size
      conv => whnf
      refine ⟨_, fun h' e => rfl, ?_⟩
      conv => whnf
      refine ⟨_, fun h' e => rfl, ?_⟩
      conv => whnf
      refine ⟨_, fun h' e => rfl, ?_⟩
      conv => whnf
      refine ⟨_, fun h' e => rfl, ?_⟩
      conv => whnf
      intro h7 x7
      have z7 := x7.size
      conv => whnf
      have x17 := ((x14.trans x5).trans x6).trans x7
      refine store_ref (x17.blk yp) ?_
      intro h8 w8
      have z8 := w8.size
      refine ⟨⟨by omega, fun b hb hlt => w8.block b (by omega)⟩, ?_⟩
      intro h9 x9
      have z9 := x9.size
      conv => whnf
      refine ⟨_, fun h' e => rfl, ?_⟩
      conv => whnf
      intro h10 x10
      have z10 := x10.size
      conv => whnf
      have x810 := x9.trans x10
      refine ⟨_, _, x810.blk (w8.blk (x17.blk yt) (by omega)), by show 0 < 41; decide, ?_⟩
      intro h11 w11
      replace w11 := w11.cast (l' := toldC (startS wk sl ws (kd o.k) o.s).2.1 false (.slice none 0 0) zeroW 0) (by rfl)
      have z11 := w11.size
      conv => whnf
      refine ⟨⟨by omega, fun b hb hlt => w11.block b (by omega)⟩, ?_⟩
      intro h12 x12
      have z12 := x12.size
      conv => whnf
      refine ⟨_, fun h' e => rfl, ?_⟩
      conv => whnf
      intro h13 x13
      have z13 := x13.size
      conv => whnf
      have x1113 := x12.trans x13
      refine ⟨_, _, x1113.blk w11.new, by show 40 < 41; decide, ?_⟩
      intro h14 w14
      replace w14 := w14.cast (told_e zeroW_key _)
      have z14' := w14.size
      refine ⟨rfl, ⟨rfl, rfl, rfl, rfl, trivial⟩, .slice a5 (startS wk sl ws (kd o.k) o.s).1.length c5, .slice none 0 0, ?_⟩
      rw [es]
      exact ⟨w14.blk (x1113.blk (w11.blk (x810.blk w8.new) (by omega))) (by omega), w14.new, zeroW_key, w14.blk (x1113.blk (w11.blk (x810.blk (w8.blk (x17.blk (yr)) (by omega))) (by omega))) (by omega), w14.blk (x1113.blk (w11.blk (x810.blk (w8.blk (x17.blk (ys)) (by omega))) (by omega))) (by omega), OwnS.keep (OwnS.more (OwnS.keep (OwnS.more (OwnS.keep ((o5.more x6).more x7) w8.chg (fun b hb e => by have := lo5 b hb; omega)) x810) w11.chg (fun b hb e => by have := lo5 b hb; omega)) x1113) w14.chg (fun b hb e => by have := lo5 b hb; omega), OI.nil h14, ⟨by have := x17.size; have := w8.size; have := x810.size; have := w11.size; have := x1113.size; have := w14.size; omega, fun b hb => by rw [w14.block b (by omega), x1113.block b (by omega), w11.block b (by omega), x810.block b (by omega), w8.block b (by omega), x17.block b (by omega), x1.block b hb]⟩, f5', fun b hb => (ob_nil hb).elim⟩
    refine cw_beq_no rfl hd0 ?_
    refine cw_seq (cw_region rfl ?_)
    by_cases hd1 : o.d = 1
    · have hd := hd1
      refine cw_beq_yes rfl hd ?_
      have es : askS wk sl id ws o = ((helloS ws o.n).1, ⟨0, false, [], zeroW, (helloS ws o.n).2⟩) := by simp [askS, hd]
      refine cw_region rfl ?_
      conv => whnf
      refine ⟨refC wk sl id (.slice va ws.length vc), rfl, yp.all, ?_⟩
      conv => whnf
      refine ⟨_, yo.rd (o := 1) rfl, ?_⟩
      conv => whnf
      refine ⟨_, rfl, _, rhello_fn o.n o1 kk I hs, ?_⟩
      rintro _ h2 ⟨wv', rfl, o2, x2, f2⟩
      obtain ⟨a2, c2, e2, _⟩ := OW.fix o2
      subst e2
      have z2 := x2.size
      have lo2 : ∀ b, ob (.slice a2 (helloS ws o.n).1.length c2) b → b < h.size ∨ h1.size ≤ b := fun b hb => (f2 b hb).imp (hol b) (fun e => e)
      conv => whnf
      refine store_ref (x2.blk yp) ?_
      intro h3 w3
      have z3 := w3.size
      conv => whnf
      refine ⟨_, _, w3.blk (x2.blk yt) (by omega), by show 40 < 41; decide, ?_⟩
      intro h4 w4
      replace w4 := w4.cast (told_e zeroW_key _)
      have z4 := w4.size
      refine ⟨rfl, ⟨rfl, rfl, rfl, rfl, trivial⟩, .slice a2 (helloS ws o.n).1.length c2, .slice none 0 0, ?_⟩
      rw [es]
      exact ⟨w4.blk w3.new (by omega), w4.new, zeroW_key, w4.blk (w3.blk (x2.blk (yr)) (by omega)) (by omega), w4.blk (w3.blk (x2.blk (ys)) (by omega)) (by omega), OwnS.keep (OwnS.keep o2 w3.chg (fun b hb e => by have := lo2 b hb; omega)) w4.chg (fun b hb e => by have := lo2 b hb; omega), OI.nil h4, ⟨by have := x2.size; have := w3.size; have := w4.size; omega, fun b hb => by rw [w4.block b (by omega), w3.block b (by omega), x2.block b (by omega), x1.block b hb]⟩, f2, fun b hb => (ob_nil hb).elim⟩
    refine cw_beq_no rfl hd1 ?_
    refine cw_seq (cw_region rfl ?_)
    by_cases hd2 : o.d = 2
    · have hd := hd2
      refine cw_beq_yes rfl hd ?_
      have es : askS wk sl id ws o = ((sendS ws o.n).1, ⟨0, false, [], zeroW, (sendS ws o.n).2⟩) := by simp [askS, hd]
      refine cw_region rfl ?_
      conv => whnf
      refine ⟨refC wk sl id (.slice va ws.length vc), rfl, yp.all, ?_⟩
      conv => whnf
      refine ⟨_, yo.rd (o := 1) rfl, ?_⟩
      conv => whnf
      refine ⟨_, rfl, _, rsend_fn o.n o1 kk I hs, ?_⟩
      rintro _ h2 ⟨wv', rfl, o2, x2, f2⟩
      obtain ⟨a2, c2, e2, _⟩ := OW.fix o2
      subst e2
      have z2 := x2.size
      have lo2 : ∀ b, ob (.slice a2 (sendS ws o.n).1.length c2) b → b < h.size ∨ h1.size ≤ b := fun b hb => (f2 b hb).imp (hol b) (fun e => e)
      conv => whnf
      refine store_ref (x2.blk yp) ?_
      intro h3 w3
      have z3 := w3.size
      conv => whnf
      refine ⟨_, _, w3.blk (x2.blk yt) (by omega), by show 40 < 41; decide, ?_⟩
      intro h4 w4
      replace w4 := w4.cast (told_e zeroW_key _)
      have z4 := w4.size
      refine ⟨rfl, ⟨rfl, rfl, rfl, rfl, trivial⟩, .slice a2 (sendS ws o.n).1.length c2, .slice none 0 0, ?_⟩
      rw [es]
      exact ⟨w4.blk w3.new (by omega), w4.new, zeroW_key, w4.blk (w3.blk (x2.blk (yr)) (by omega)) (by omega), w4.blk (w3.blk (x2.blk (ys)) (by omega)) (by omega), OwnS.keep (OwnS.keep o2 w3.chg (fun b hb e => by have := lo2 b hb; omega)) w4.chg (fun b hb e => by have := lo2 b hb; omega), OI.nil h4, ⟨by have := x2.size; have := w3.size; have := w4.size; omega, fun b hb => by rw [w4.block b (by omega), w3.block b (by omega), x2.block b (by omega), x1.block b hb]⟩, f2, fun b hb => (ob_nil hb).elim⟩
    refine cw_beq_no rfl hd2 ?_
    refine cw_seq (cw_region rfl ?_)
    by_cases hd3 : o.d = 3
    · have hd := hd3
      refine cw_beq_yes rfl hd ?_
      have es : askS wk sl id ws o = ((doneS ws o.n).1, ⟨0, false, [], zeroW, (doneS ws o.n).2⟩) := by simp [askS, hd]
      refine cw_region rfl ?_
      conv => whnf
      refine ⟨refC wk sl id (.slice va ws.length vc), rfl, yp.all, ?_⟩
      conv => whnf
      refine ⟨_, yo.rd (o := 1) rfl, ?_⟩
      conv => whnf
      refine ⟨_, rfl, _, rdone_fn o.n o1 kk I hs, ?_⟩
      rintro _ h2 ⟨wv', rfl, o2, x2, f2⟩
      obtain ⟨a2, c2, e2, _⟩ := OW.fix o2
      subst e2
      have z2 := x2.size
      have lo2 : ∀ b, ob (.slice a2 (doneS ws o.n).1.length c2) b → b < h.size ∨ h1.size ≤ b := fun b hb => (f2 b hb).imp (hol b) (fun e => e)
      conv => whnf
      refine store_ref (x2.blk yp) ?_
      intro h3 w3
      have z3 := w3.size
      conv => whnf
      refine ⟨_, _, w3.blk (x2.blk yt) (by omega), by show 40 < 41; decide, ?_⟩
      intro h4 w4
      replace w4 := w4.cast (told_e zeroW_key _)
      have z4 := w4.size
      refine ⟨rfl, ⟨rfl, rfl, rfl, rfl, trivial⟩, .slice a2 (doneS ws o.n).1.length c2, .slice none 0 0, ?_⟩
      rw [es]
      exact ⟨w4.blk w3.new (by omega), w4.new, zeroW_key, w4.blk (w3.blk (x2.blk (yr)) (by omega)) (by omega), w4.blk (w3.blk (x2.blk (ys)) (by omega)) (by omega), OwnS.keep (OwnS.keep o2 w3.chg (fun b hb e => by have := lo2 b hb; omega)) w4.chg (fun b hb e => by have := lo2 b hb; omega), OI.nil h4, ⟨by have := x2.size; have := w3.size; have := w4.size; omega, fun b hb => by rw [w4.block b (by omega), w3.block b (by omega), x2.block b (by omega), x1.block b hb]⟩, f2, fun b hb => (ob_nil hb).elim⟩
    refine cw_beq_no rfl hd3 ?_
    refine cw_seq (cw_region rfl ?_)
    by_cases hd4 : o.d = 4
    · have hd := hd4
      refine cw_beq_yes rfl hd ?_
      have es : askS wk sl id ws o = ((drainS ws o.n).1, ⟨0, false, [], zeroW, (drainS ws o.n).2⟩) := by simp [askS, hd]
      refine cw_region rfl ?_
      conv => whnf
      refine ⟨refC wk sl id (.slice va ws.length vc), rfl, yp.all, ?_⟩
      conv => whnf
      refine ⟨_, yo.rd (o := 1) rfl, ?_⟩
      conv => whnf
      refine ⟨_, rfl, _, rdrain_fn o.n o1 kk I hs, ?_⟩
      rintro _ h2 ⟨wv', rfl, o2, x2, f2⟩
      obtain ⟨a2, c2, e2, _⟩ := OW.fix o2
      subst e2
      have z2 := x2.size
      have lo2 : ∀ b, ob (.slice a2 (drainS ws o.n).1.length c2) b → b < h.size ∨ h1.size ≤ b := fun b hb => (f2 b hb).imp (hol b) (fun e => e)
      conv => whnf
      refine store_ref (x2.blk yp) ?_
      intro h3 w3
      have z3 := w3.size
      conv => whnf
      refine ⟨_, _, w3.blk (x2.blk yt) (by omega), by show 40 < 41; decide, ?_⟩
      intro h4 w4
      replace w4 := w4.cast (told_e zeroW_key _)
      have z4 := w4.size
      refine ⟨rfl, ⟨rfl, rfl, rfl, rfl, trivial⟩, .slice a2 (drainS ws o.n).1.length c2, .slice none 0 0, ?_⟩
      rw [es]
      exact ⟨w4.blk w3.new (by omega), w4.new, zeroW_key, w4.blk (w3.blk (x2.blk (yr)) (by omega)) (by omega), w4.blk (w3.blk (x2.blk (ys)) (by omega)) (by omega), OwnS.keep (OwnS.keep o2 w3.chg (fun b hb e => by have := lo2 b hb; omega)) w4.chg (fun b hb e => by have := lo2 b hb; omega), OI.nil h4, ⟨by have := x2.size; have := w3.size; have := w4.size; omega, fun b hb => by rw [w4.block b (by omega), w3.block b (by omega), x2.block b (by omega), x1.block b hb]⟩, f2, fun b hb => (ob_nil hb).elim⟩
    refine cw_beq_no rfl hd4 ?_
    refine cw_seq (cw_region rfl ?_)
    by_cases hd5 : o.d = 5
    · have hd := hd5
      refine cw_beq_yes rfl hd ?_
      have es : askS wk sl id ws o = ((endS ws o.n 5 [1, 2, 3, 4]).1, ⟨(endS ws o.n 5 [1, 2, 3, 4]).2.1, false, [], zeroW, (endS ws o.n 5 [1, 2, 3, 4]).2.2⟩) := by simp [askS, hd]
      refine cw_region rfl ?_
      conv => whnf
      refine ⟨refC wk sl id (.slice va ws.length vc), rfl, yp.all, ?_⟩
      conv => whnf
      refine ⟨_, yo.rd (o := 1) rfl, ?_⟩
      conv => whnf
      refine ⟨_, rfl, _, rpoison_fn o.n o1 kk I hs, ?_⟩
      rintro _ h2 ⟨wv', rfl, o2, x2, f2⟩
      obtain ⟨a2, c2, e2, _⟩ := OW.fix o2
      subst e2
      have z2 := x2.size
      have lo2 : ∀ b, ob (.slice a2 (endS ws o.n 5 [1, 2, 3, 4]).1.length c2) b → b < h.size ∨ h1.size ≤ b := fun b hb => (f2 b hb).imp (hol b) (fun e => e)
      conv => whnf
      refine store_ref (x2.blk yp) ?_
      intro h3 w3
      have z3 := w3.size
      conv => whnf
      refine ⟨_, _, w3.blk (x2.blk yt) (by omega), by show 0 < 41; decide, ?_⟩
      intro h4 w4
      replace w4 := w4.cast (l' := toldC (endS ws o.n 5 [1, 2, 3, 4]).2.1 false (.slice none 0 0) zeroW 0) (by rfl)
      have z4 := w4.size
      conv => whnf
      refine ⟨_, _, w4.new, by show 40 < 41; decide, ?_⟩
      intro h5 w5
      replace w5 := w5.cast (told_e zeroW_key _)
      have z5 := w5.size
      refine ⟨rfl, ⟨rfl, rfl, rfl, rfl, trivial⟩, .slice a2 (endS ws o.n 5 [1, 2, 3, 4]).1.length c2, .slice none 0 0, ?_⟩
      rw [es]
      exact ⟨w5.blk (w4.blk w3.new (by omega)) (by omega), w5.new, zeroW_key, w5.blk (w4.blk (w3.blk (x2.blk (yr)) (by omega)) (by omega)) (by omega), w5.blk (w4.blk (w3.blk (x2.blk (ys)) (by omega)) (by omega)) (by omega), OwnS.keep (OwnS.keep (OwnS.keep o2 w3.chg (fun b hb e => by have := lo2 b hb; omega)) w4.chg (fun b hb e => by have := lo2 b hb; omega)) w5.chg (fun b hb e => by have := lo2 b hb; omega), OI.nil h5, ⟨by have := x2.size; have := w3.size; have := w4.size; have := w5.size; omega, fun b hb => by rw [w5.block b (by omega), w4.block b (by omega), w3.block b (by omega), x2.block b (by omega), x1.block b hb]⟩, f2, fun b hb => (ob_nil hb).elim⟩
    refine cw_beq_no rfl hd5 ?_
    refine cw_seq (cw_region rfl ?_)
    by_cases hd6 : o.d = 6
    · have hd := hd6
      refine cw_beq_yes rfl hd ?_
      have es : askS wk sl id ws o = ((endS ws o.n 6 [1, 2, 3, 4, 5]).1, ⟨(endS ws o.n 6 [1, 2, 3, 4, 5]).2.1, false, [], zeroW, (endS ws o.n 6 [1, 2, 3, 4, 5]).2.2⟩) := by simp [askS, hd]
      refine cw_region rfl ?_
      conv => whnf
      refine ⟨refC wk sl id (.slice va ws.length vc), rfl, yp.all, ?_⟩
      conv => whnf
      refine ⟨_, yo.rd (o := 1) rfl, ?_⟩
      conv => whnf
      refine ⟨_, rfl, _, rkill_fn o.n o1 kk I hs, ?_⟩
      rintro _ h2 ⟨wv', rfl, o2, x2, f2⟩
      obtain ⟨a2, c2, e2, _⟩ := OW.fix o2
      subst e2
      have z2 := x2.size
      have lo2 : ∀ b, ob (.slice a2 (endS ws o.n 6 [1, 2, 3, 4, 5]).1.length c2) b → b < h.size ∨ h1.size ≤ b := fun b hb => (f2 b hb).imp (hol b) (fun e => e)
      conv => whnf
      refine store_ref (x2.blk yp) ?_
      intro h3 w3
      have z3 := w3.size
      conv => whnf
      refine ⟨_, _, w3.blk (x2.blk yt) (by omega), by show 0 < 41; decide, ?_⟩
      intro h4 w4
      replace w4 := w4.cast (l' := toldC (endS ws o.n 6 [1, 2, 3, 4, 5]).2.1 false (.slice none 0 0) zeroW 0) (by rfl)
      have z4 := w4.size
      conv => whnf
      refine ⟨_, _, w4.new, by show 40 < 41; decide, ?_⟩
      intro h5 w5
      replace w5 := w5.cast (told_e zeroW_key _)
      have z5 := w5.size
      refine ⟨rfl, ⟨rfl, rfl, rfl, rfl, trivial⟩, .slice a2 (endS ws o.n 6 [1, 2, 3, 4, 5]).1.length c2, .slice none 0 0, ?_⟩
      rw [es]
      exact ⟨w5.blk (w4.blk w3.new (by omega)) (by omega), w5.new, zeroW_key, w5.blk (w4.blk (w3.blk (x2.blk (yr)) (by omega)) (by omega)) (by omega), w5.blk (w4.blk (w3.blk (x2.blk (ys)) (by omega)) (by omega)) (by omega), OwnS.keep (OwnS.keep (OwnS.keep o2 w3.chg (fun b hb e => by have := lo2 b hb; omega)) w4.chg (fun b hb e => by have := lo2 b hb; omega)) w5.chg (fun b hb e => by have := lo2 b hb; omega), OI.nil h5, ⟨by have := x2.size; have := w3.size; have := w4.size; have := w5.size; omega, fun b hb => by rw [w5.block b (by omega), w4.block b (by omega), w3.block b (by omega), x2.block b (by omega), x1.block b hb]⟩, f2, fun b hb => (ob_nil hb).elim⟩
    refine cw_beq_no rfl hd6 ?_
    refine cw_seq (cw_region rfl ?_)
    by_cases hd7 : o.d = 7
    · have hd := hd7
      refine cw_beq_yes rfl hd ?_
      have es : askS wk sl id ws o = (ws.map (tickW id), ⟨0, false, tickOut id ws, zeroW, 0⟩) := by simp [askS, hd]
      refine cw_region rfl ?_
      conv => whnf
      refine ⟨refC wk sl id (.slice va ws.length vc), rfl, yp.all, ?_⟩
      conv => whnf
      refine ⟨_, rfl, _, rtick_fn o1 kk I hs, ?_⟩
      rintro _ h2 ⟨wv', lv, rfl, o2, l2, x2, f2, g2⟩
      obtain ⟨a2, c2, e2, _⟩ := OW.fix o2
      subst e2
      obtain ⟨la, lc, e2', _⟩ := (OwnS.src l2).form
      subst e2'
      have z2 := x2.size
      have lo2 : ∀ b, ob (.slice a2 (ws.map (tickW id)).length c2) b → b < h.size ∨ h1.size ≤ b := fun b hb => (f2 b hb).imp (hol b) (fun e => e)
      conv => whnf
      refine store_ref (x2.blk yp) ?_
      intro h3 w3
      have z3 := w3.size
      conv => whnf
      refine ⟨_, _, w3.blk (x2.blk yt) (by omega), by show 2 < 41; decide, ?_⟩
      intro h4 w4
      replace w4 := w4.cast (l' := toldC 0 false (.slice la (tickOut id ws).length lc) zeroW 0) (by rfl)
      have z4 := w4.size
      refine ⟨rfl, ⟨rfl, rfl, rfl, rfl, trivial⟩, .slice a2 (ws.map (tickW id)).length c2, .slice la (tickOut id ws).length lc, ?_⟩
      rw [es]
      exact ⟨w4.blk w3.new (by omega), w4.new, zeroW_key, w4.blk (w3.blk (x2.blk (yr)) (by omega)) (by omega), w4.blk (w3.blk (x2.blk (ys)) (by omega)) (by omega), OwnS.keep (OwnS.keep o2 w3.chg (fun b hb e => by have := lo2 b hb; omega)) w4.chg (fun b hb e => by have := lo2 b hb; omega), OI.keep (OI.keep l2 w3.chg (fun b hb e => by have := g2 b hb; omega)) w4.chg (fun b hb e => by have := g2 b hb; omega), ⟨by have := x2.size; have := w3.size; have := w4.size; omega, fun b hb => by rw [w4.block b (by omega), w3.block b (by omega), x2.block b (by omega), x1.block b hb]⟩, f2, g2⟩
    refine cw_beq_no rfl hd7 ?_
    refine cw_seq (cw_region rfl ?_)
    by_cases hd8 : o.d = 8
    · have hd := hd8
      refine cw_beq_yes rfl hd ?_
      have es : askS wk sl id ws o = (ws, ⟨(pickB (kd o.k) ws).n, decide (0 < (pickB (kd o.k) ws).n), [], zeroW, 0⟩) := by simp [askS, hd]
      refine cw_keeps (by kernel_rfl) 11 (fun b => b ≠ h.size + 4) (.q 0 (.q 1 (.q 2 (.q 3 (.i1 4 (.q 5 (.q 6 (.q 7 (.q 8 (.i1 9 (.q 10 .leaf))))))))))) (by kernel_rfl) rfl ?_
      conv => whnf
      refine ⟨.agg (refC wk sl id (.slice va ws.length vc)).toArray, fun h' e => ⟨refC wk sl id (.slice va ws.length vc), rfl, (ExtP.blk' e yp (show h.size ≠ h.size + 4 by omega)).all, rfl⟩, ?_⟩
      conv => whnf
      refine ⟨_, fun h' e => rfl, ?_⟩
      conv => whnf
      refine ⟨u8v o.k, fun h' e => ⟨_, (ExtP.blk' e yo (show h.size + 1 ≠ h.size + 4 by omega)).rd (o := 3) rfl, rfl⟩, ?_⟩
      conv => whnf
      refine ⟨.agg ((kd o.k).map u8v).toArray, fun h' e => ⟨_, rfl, _, fun h'' x => key_fn o.k h'', rfl⟩, ?_⟩
      conv => whnf
      intro h2 x2
      conv => whnf
      refine ⟨_, rfl, _, rpick_fn (kd o.k) (kd_length _) (o1.more x2) kk I, ?_⟩
      rintro _ h3 ⟨rfl, x3⟩
      refine ⟨x3.toP _, ?_⟩
      intro h4 x4
      have x14 := (x2.trans x3).trans x4
      have z14 := x14.size
      conv => whnf
      refine ⟨_, fun h' e => rfl, ?_⟩
      conv => whnf
      refine ⟨_, fun h' e => rfl, ?_⟩
      conv => whnf
      refine ⟨_, fun h' e => rfl, ?_⟩
      conv => whnf
      refine ⟨_, fun h' e => rfl, ?_⟩
      conv => whnf
      intro h5 x5
      have z5 := x5.size
      conv => whnf
      refine ⟨_, _, x5.blk (x14.blk yt), by show 0 < 41; decide, ?_⟩
      intro h6 w6
      replace w6 := w6.cast (l' := toldC (pickB (kd o.k) ws).n false (.slice none 0 0) zeroW 0) (by rfl)
      have z6 := w6.size
      conv => whnf
      refine ⟨⟨by omega, fun b hb hlt => w6.block b hb⟩, ?_⟩
      intro h7 x7
      conv => whnf
      refine ⟨_, fun h' e => rfl, ?_⟩
      conv => whnf
      intro h8 x8
      have z7 := x7.size
      have z8 := x8.size
      have x68 := x7.trans x8
      conv => whnf
      refine ⟨_, _, x68.blk w6.new, by show 1 < 41; decide, ?_⟩
      intro h9 w9
      replace w9 := w9.cast (l' := toldC (pickB (kd o.k) ws).n (decide (0 < (pickB (kd o.k) ws).n)) (.slice none 0 0) zeroW 0) (by rfl)
      have z9 := w9.size
      refine ⟨rfl, ⟨rfl, rfl, rfl, rfl, trivial⟩, .slice va ws.length vc, .slice none 0 0, ?_⟩
      rw [es]
      exact ⟨w9.blk (x68.blk (w6.blk (x5.blk (x14.blk yp)) (by omega))) (by omega), w9.new, zeroW_key, w9.blk (x68.blk (w6.blk (x5.blk (x14.blk (yr))) (by omega))) (by omega), w9.blk (x68.blk (w6.blk (x5.blk (x14.blk (ys))) (by omega))) (by omega), OwnS.keep (OwnS.more (OwnS.keep ((o1.more x14).more x5) w6.chg (fun b hb e => by have := hol b hb; omega)) x68) w9.chg (fun b hb e => by have := hol b hb; omega), OI.nil h9, ⟨by have := x14.size; have := x5.size; have := w6.size; have := x68.size; have := w9.size; omega, fun b hb => by rw [w9.block b (by omega), x68.block b (by omega), w6.block b (by omega), x5.block b (by omega), x14.block b (by omega), x1.block b hb]⟩, fun b hb => .inl hb, fun b hb => (ob_nil hb).elim⟩
    refine cw_beq_no rfl hd8 ?_
    refine cw_seq (cw_region rfl ?_)
    by_cases hd9 : o.d = 9
    · have hd := hd9
      refine cw_beq_yes rfl hd ?_
      have es : askS wk sl id ws o = (ws, ⟨(spareB (o.ks.map kd) ws).n, decide (0 < (spareB (o.ks.map kd) ws).n), [], zeroW, 0⟩) := by simp [askS, hd]
      refine cw_keeps (by kernel_rfl) 11 (fun b => b ≠ h.size + 4) (.q 0 (.q 1 (.q 2 (.i1 3 (.i1 4 (.q 5 (.q 6 (.q 7 (.q 8 (.i1 9 (.q 10 .leaf))))))))))) (by kernel_rfl) rfl ?_
      conv => whnf
      refine ⟨.agg (refC wk sl id (.slice va ws.length vc)).toArray, fun h' e => ⟨refC wk sl id (.slice va ws.length vc), rfl, (ExtP.blk' e yp (show h.size ≠ h.size + 4 by omega)).all, rfl⟩, ?_⟩
      conv => whnf
      refine ⟨_, fun h' e => rfl, ?_⟩
      conv => whnf
      refine ⟨.slice ka o.ks.length kc, fun h' e => ⟨_, (ExtP.blk' e yo (show h.size + 1 ≠ h.size + 4 by omega)).rd (o := 4) rfl, rfl⟩, ?_⟩
      conv => whnf
      intro h2 x2
      conv => whnf
      refine ⟨_, rfl, _, keys_fn (rk1.more x2) hks, ?_⟩
      rintro u3 h3 ⟨ok3, x3, f3⟩
      refine ⟨x3.toP _, ?_⟩
      intro h3' x3'
      conv => whnf
      intro h3'' x3''
      conv => whnf
      have x13 := ((x2.trans x3).trans x3').trans x3''
      refine ⟨_, rfl, _, rspare_fn (((ok3.more x3').more x3'').r) (all32_kd _) (o1.more x13) kk I, ?_⟩
      rintro _ h4' ⟨rfl, x4'⟩
      refine ⟨x4'.toP _, ?_⟩
      intro h4 x4
      have x14 := (x13.trans x4').trans x4
      have z14 := x14.size
      conv => whnf
      refine ⟨_, fun h' e => rfl, ?_⟩
      conv => whnf
      refine ⟨_, fun h' e => rfl, ?_⟩
      conv => whnf
      refine ⟨_, fun h' e => rfl, ?_⟩
      conv => whnf
      refine ⟨_, fun h' e => rfl, ?_⟩
      conv => whnf
      intro h5 x5
      have z5 := x5.size
      conv => whnf
      refine ⟨_, _, x5.blk (x14.blk yt), by show 0 < 41; decide, ?_⟩
      intro h6 w6
      replace w6 := w6.cast (l' := toldC (spareB (o.ks.map kd) ws).n false (.slice none 0 0) zeroW 0) (by rfl)
      have z6 := w6.size
      conv => whnf
      refine ⟨⟨by omega, fun b hb hlt => w6.block b hb⟩, ?_⟩
      intro h7 x7
      conv => whnf
      refine ⟨_, fun h' e => rfl, ?_⟩
      conv => whnf
      intro h8 x8
      have z7 := x7.size
      have z8 := x8.size
      have x68 := x7.trans x8
      conv => whnf
      refine ⟨_, _, x68.blk w6.new, by show 1 < 41; decide, ?_⟩
      intro h9 w9
      replace w9 := w9.cast (l' := toldC (spareB (o.ks.map kd) ws).n (decide (0 < (spareB (o.ks.map kd) ws).n)) (.slice none 0 0) zeroW 0) (by rfl)
      have z9 := w9.size
      refine ⟨rfl, ⟨rfl, rfl, rfl, rfl, trivial⟩, .slice va ws.length vc, .slice none 0 0, ?_⟩
      rw [es]
      exact ⟨w9.blk (x68.blk (w6.blk (x5.blk (x14.blk yp)) (by omega))) (by omega), w9.new, zeroW_key, w9.blk (x68.blk (w6.blk (x5.blk (x14.blk (yr))) (by omega))) (by omega), w9.blk (x68.blk (w6.blk (x5.blk (x14.blk (ys))) (by omega))) (by omega), OwnS.keep (OwnS.more (OwnS.keep ((o1.more x14).more x5) w6.chg (fun b hb e => by have := hol b hb; omega)) x68) w9.chg (fun b hb e => by have := hol b hb; omega), OI.nil h9, ⟨by have := x14.size; have := x5.size; have := w6.size; have := x68.size; have := w9.size; omega, fun b hb => by rw [w9.block b (by omega), x68.block b (by omega), w6.block b (by omega), x5.block b (by omega), x14.block b (by omega), x1.block b hb]⟩, fun b hb => .inl hb, fun b hb => (ob_nil hb).elim⟩
    refine cw_beq_no rfl hd9 ?_
    refine cw_seq (cw_region rfl ?_)
    by_cases hd10 : o.d = 10
    · have hd := hd10
      refine cw_beq_yes rfl hd ?_
      have es : askS wk sl id ws o = (ws, ⟨0, false, [], (rlookS ws o.n).1, (rlookS ws o.n).2⟩) := by rw [look_eq I]; simp [askS, hd]
      have hlk := rlook_key kk o.n
      refine cw_region rfl ?_
      conv => whnf
      refine ⟨refC wk sl id (.slice va ws.length vc), rfl, yp.all, ?_⟩
      conv => whnf
      refine ⟨_, yo.rd (o := 1) rfl, ?_⟩
      conv => whnf
      refine ⟨_, rfl, _, rlook_fn o.n o1 kk, ?_⟩
      rintro _ h2 ⟨rfl, x2⟩
      have z2 := x2.size
      conv => whnf
      refine ⟨_, _, x2.blk yt, ⟨by show 3 + (wkC (rlookS ws o.n).1).length ≤ 41; rw [wkC_length hlk]; omega, by show (wkC (rlookS ws o.n).1).length = _; rw [wkC_length hlk]; rfl, wkC_one _⟩, ?_⟩
      intro h3 w3
      replace w3 := w3.cast (l' := toldC 0 false (.slice none 0 0) (rlookS ws o.n).1 0) (told_w zeroW_key hlk)
      have z3 := w3.size
      conv => whnf
      refine ⟨_, _, w3.new, by show 40 < (toldC _ _ _ _ _).length; rw [told_length hlk]; decide, ?_⟩
      intro h4 w4
      replace w4 := w4.cast (told_e hlk _)
      have z4 := w4.size
      refine ⟨rfl, ⟨rfl, rfl, rfl, rfl, trivial⟩, .slice va ws.length vc, .slice none 0 0, ?_⟩
      rw [es]
      exact ⟨w4.blk (w3.blk (x2.blk yp) (by omega)) (by omega), w4.new, hlk, w4.blk (w3.blk (x2.blk (yr)) (by omega)) (by omega), w4.blk (w3.blk (x2.blk (ys)) (by omega)) (by omega), OwnS.keep (OwnS.keep (o1.more x2) w3.chg (fun b hb e => by have := hol b hb; omega)) w4.chg (fun b hb e => by have := hol b hb; omega), OI.nil h4, ⟨by have := x2.size; have := w3.size; have := w4.size; omega, fun b hb => by rw [w4.block b (by omega), w3.block b (by omega), x2.block b (by omega), x1.block b hb]⟩, fun b hb => .inl hb, fun b hb => (ob_nil hb).elim⟩
    refine cw_beq_no rfl hd10 (cw_skip ?_)
    have es : askS wk sl id ws o = (ws, ⟨0, false, [], zeroW, 0⟩) := by simp [askS, *]
    refine ⟨rfl, ⟨rfl, rfl, rfl, rfl, trivial⟩, .slice va ws.length vc, .slice none 0 0, ?_⟩
    rw [es]
    exact ⟨yp, yt, zeroW_key, yr, ys, o1, OI.nil h1, x1, fun b hb => .inl hb, fun b hb => (ob_nil hb).elim⟩
  · rintro e fr h2 ⟨rfl, hsub, wv', lv, yp2, yt2, hk2, yr2, ys2, o2, l2, x2, f2, g2⟩
    refine cw_keep _ hsub ?_
    generalize askS wk sl id ws o = W at yt2 hk2 o2 l2
    obtain ⟨a2, c2, e2, _⟩ := OW.fix o2
    subst e2
    have hlen := told_length (n := W.2.n) (s := W.2.s) (lv := lv) (w := W.2.w) (e := W.2.e) hk2
    refine cw_seq (cw_keeps (by kernel_rfl) 3 (fun b => b ≠ h.size + 2) (.q 0 (.q 1 (.i1 2 .leaf))) (by kernel_rfl) rfl ?_)
    conv => whnf
    refine ⟨.agg (refC wk sl id (.slice a2 W.1.length c2)).toArray, fun h' e => ⟨refC wk sl id (.slice a2 W.1.length c2), rfl, (ExtP.blk' e yp2 (show h.size ≠ h.size + 2 by omega)).all, rfl⟩, ?_⟩
    conv => whnf
    refine ⟨.agg (toldC W.2.n W.2.s lv W.2.w W.2.e).toArray, fun h' e => ⟨toldC W.2.n W.2.s lv W.2.w W.2.e, by rw [hlen]; rfl, (ExtP.blk' e yt2 (show h.size + 4 ≠ h.size + 2 by omega)).all, rfl⟩, ?_⟩
    conv => whnf
    intro h3 x3
    conv => whnf
    refine store_ref (x3.blk yr2) ?_
    intro h4 w4
    have z2 := x2.size
    have z3 := x3.size
    have z4 := w4.size
    conv => whnf
    refine ⟨⟨by omega, fun b hb hlt => w4.block b hb⟩, ?_⟩
    intro h5 x5
    conv => whnf
    intro h6 x6
    have z5 := x5.size
    have z6 := x6.size
    have x46 := x5.trans x6
    have l6 := (OI.keep (l2.more x3) w4.chg (fun b hb e => by have := g2 b hb; omega)).more x46
    conv => whnf
    refine store_told (x46.blk (w4.blk (x3.blk ys2) (by omega))) hk2 l6 ?_
    intro h7 w7
    have z7 := w7.size
    have nr : ∀ b, ob (.slice a2 W.1.length c2) b → b ≠ h.size + 2 ∧ b ≠ h.size + 3 := fun b hb => by
      rcases f2 b hb with e | e
      · have := hol b e; omega
      · omega
    refine cw_ret ?_
    conv => whnf
    refine ⟨refC wk sl id (.slice a2 W.1.length c2), rfl, (w7.blk (x46.blk w4.new) (by omega)).all, ?_⟩
    conv => whnf
    refine ⟨_, by rw [hlen]; rfl, w7.new.all, .slice a2 W.1.length c2, lv, rfl, OwnS.keep (OwnS.more (OwnS.keep (o2.more x3) w4.chg (fun b hb e => (nr b hb).1 e)) x46) w7.chg (fun b hb e => (nr b hb).2 e), OI.keep l6 w7.chg (fun b hb e => by have := g2 b hb; omega),
      ⟨by omega, fun b hb => by rw [w7.block b (by omega), x46.block b (by omega), w4.block b (by omega), x3.block b (by omega), x2.block b hb]⟩, fun b hb => (f2 b hb).imp (fun e => e) (fun e => by omega), fun b hb => by have := g2 b hb; omega⟩
end Go.Proofs.Ytcmjgkjnnmfijaa
