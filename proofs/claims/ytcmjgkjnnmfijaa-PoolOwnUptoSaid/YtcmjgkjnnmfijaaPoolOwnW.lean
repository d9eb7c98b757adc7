/-
  PoolOwn: the walk. Printed by tools/genown.py.
-/
import Derived.Test.YtcmjgkjnnmfijaaPoolBoth
namespace Go.Proofs.Ytcmjgkjnnmfijaa
open Go Vm
set_option maxRecDepth 100000
set_option linter.unusedVariables false
set_option linter.unusedSimpArgs false
set_option maxHeartbeats 2000000
theorem own_fn {h : Heap} {ov : Value} {os : List (Opv × Value)} (wk sl id : Int) (r : RO h ov os) :
    Fx Try.prog 7 #[.agg #[.int .i64 wk, .int .i64 sl, .int .i64 id], ov] h fun u h' => u = .bool true ∧ ExtH h h' := by
  refine fn_of 134 Try.func7 rfl (by kernel_rfl) rfl (by simp) ?_
  obtain ⟨oa, oc, hoe, hom⟩ := r.fix
  subst hoe
  have hmax : maxLen < 9223372036854775808 := by decide
  refine cw_seq (cw_region rfl ?_)
  conv => whnf
  intro ha na
  have ya : Blk ha h.size [.int .i64 wk, .int .i64 sl, .int .i64 id] 23 := na.blk
  have xa := na.ext
  have za := na.size
  clear na
  refine cw_seq (cw_region rfl ?_)
  conv => whnf
  refine ⟨_, ya.rd (o := 0) rfl, ?_⟩
  conv => whnf
  refine ⟨_, ya.rd (o := 1) rfl, ?_⟩
  conv => whnf
  refine ⟨_, ya.rd (o := 2) rfl, ?_⟩
  conv => whnf
  by_cases hl : okLim wk sl id
  · refine ⟨_, rfl, _, new_yes wk sl id hl ha, ?_⟩
    rintro _ h1 ⟨rfl, A1, x1⟩
    have hwk : 0 < wk := by have := hl.1; omega
    have y1 := x1.blk ya
    have pl := A1.blk.lt
    conv => whnf
    refine cw_seq (cw_region rfl ?_)
    conv => whnf
    refine ⟨_, y1.rd (o := 0) rfl, ?_⟩
    conv => whnf
    refine ⟨_, y1.rd (o := 1) rfl, ?_⟩
    conv => whnf
    refine ⟨_, y1.rd (o := 2) rfl, ?_⟩
    conv => whnf
    refine ⟨_, rfl, _, rnew_yes wk sl id hl h1, ?_⟩
    rintro _ h2 ⟨rfl, x2⟩
    conv => whnf
    intro h3 n3
    have y3 : Blk h3 h2.size (refC 0 0 0 (.slice none 0 0)) 53 := n3.blk
    have x3 := n3.ext
    have z2 := x2.size
    have z3 := n3.size
    clear n3
    conv => whnf
    refine store_ref y3 ?_
    intro h4 w4
    have z4 := w4.size
    have x24 : ExtH h2 h4 := ⟨by omega, fun b hb => by rw [w4.block b (by omega), x3.block b hb]⟩
    have B0 : Both h h4 ha.size h2.size (.slice none 0 0) (.slice none 0 0) wk sl id [] [] :=
      ⟨⟨(A1.more x2).more x24, (xa.trans x1).trans (x2.trans x24), by omega, fun b hb => (ob_nil hb).elim⟩, w4.new, OW.nil h4, fun b hb => (ob_nil hb).elim, by have := x1.size; omega, fun b hb => (ob_nil hb).elim⟩
    clear A1 x1 x2 x3 y3 w4 x24 y1 ya xa
    conv => whnf
    refine cw_seq (cw_seq (cw_region rfl ?_))
    conv => whnf
    refine cw_false rfl (cw_skip ?_)
    refine cw_seq (cw_seq (cw_region rfl ?_))
    refine cw_block ?_
    generalize ha.size = p at B0
    generalize h2.size = rb at B0
    refine cw_loop (S := Nat) (fun t => [(1, .slice oa os.length oc), (5, .pointer (some ⟨p, 0, none⟩)), (7, .pointer (some ⟨rb, 0, none⟩)), (9, .int .i64 (t : Int))])
      (fun t h' => t ≤ os.length ∧ ∃ v wv ws, Both h h' p rb v wv wk sl id ws ws ∧ Inv wk sl id ws ∧ ws.length ≤ t) (fun t => os.length - t) 0 ⟨rfl, rfl, rfl, rfl, trivial⟩
      ⟨by omega, _, _, [], B0, Inv.nil hl, Nat.le_refl _⟩ ?_
    clear B0
    rintro t h5 ⟨ht, v, wv, ws, B5, I, hlen⟩
    have hsm := r.small
    refine cw_seq (cw_seq (cw_region rfl ?_))
    conv => whnf
    by_cases hlt : t < os.length
    · refine cw_yes rfl (by show (t : Int) < _; omega) (cw_skip ?_)
      have hx : os[t]? = some os[t] := List.getElem?_eq_getElem hlt
      generalize os[t] = xk at hx
      have hxm := List.mem_of_getElem? hx
      have rks := r.ks xk hxm
      have rkl := r.kss xk hxm
      obtain ⟨x, kv⟩ := xk
      simp only at rks rkl
      obtain ⟨ka, kc, hke, hkm⟩ := rks.fix
      subst hke
      obtain ⟨b, o, rfl, _⟩ := r.get t _ hx
      have hr' : ∀ {h' : Heap}, ExtH h h' → rdN h' b (o + ((t : Int)).toNat * 5) (opC x (.slice ka x.ks.length kc)) := fun e => by
        obtain ⟨b', o', hbo, hr'⟩ := (r.more e).get t _ hx
        injection hbo with hbo
        injection hbo with hb1 hb2
        subst hb1 hb2
        rwa [show o + t * 5 = o + ((t : Int)).toNat * 5 by omega] at hr'
      refine cw_seq (cw_block (cw_seq (cw_region rfl ?_)))
      conv => whnf
      refine ⟨⟨by omega, by omega⟩, ?_⟩
      conv => whnf
      refine ⟨_, hr' B5.N.ext 4 _ rfl, ?_⟩
      conv => whnf
      refine ⟨_, rfl, _, keys_fn (rks.more B5.N.ext) (by omega), ?_⟩
      rintro kl h6 ⟨k6, x6, f6⟩
      obtain ⟨kla, klc, hkl, _⟩ := RK.fix k6.r
      subst hkl
      have B6 := B5.more x6
      conv => whnf
      refine cw_seq (cw_region rfl ?_)
      conv => whnf
      refine ⟨_, rfl, _, spare_fn k6.r (all32_kd _) B6.N.at_ hwk, ?_⟩
      rintro _ h7 ⟨rfl, x7⟩
      have B7 := B6.more x7
      have k7 := k6.more x7
      clear x6 x7 f6 k6 B6
      refine cw_seq (cw_seq (cw_region rfl ?_))
      refine cw_block ?_
      refine cw_loop (S := Nat) (fun j => [(1, .slice (some ⟨b, o, none⟩) os.length oc), (5, .pointer (some ⟨p, 0, none⟩)), (7, .pointer (some ⟨rb, 0, none⟩)), (9, .int .i64 (t : Int)), (10, .slice kla (x.ks.map kd).length klc), (11, .int .i64 (j : Int))])
        (fun j h' => j ≤ (x.ks.map kd).length ∧ ExtH h7 h') (fun j => (x.ks.map kd).length - j) 0 ⟨rfl, rfl, rfl, rfl, rfl, rfl, trivial⟩ ⟨by omega, ExtH.refl _⟩ ?_
      rintro j h8 ⟨hj, x8⟩
      have hkml : (x.ks.map kd).length = x.ks.length := List.length_map _
      have B8 := B7.more x8
      refine cw_seq (cw_seq (cw_region rfl ?_))
      conv => whnf
      by_cases hjl : j < (x.ks.map kd).length
      · refine cw_yes rfl (by show (j : Int) < _; omega) (cw_skip ?_)
        have hkj : x.ks[j]? = some x.ks[j] := List.getElem?_eq_getElem (by omega)
        obtain ⟨b2, o2, rfl, hr2⟩ := (k7.more x8).r.get (all32_kd _) j hjl
        have hgd : (x.ks.map kd).getD j [] = kd x.ks[j] := by rw [List.getD_eq_getElem?_getD, List.getElem?_map, hkj]; rfl
        rw [hgd] at hr2
        obtain ⟨b3, o3, hka, hr3⟩ := (rks.more (B7.N.ext.trans x8)).get j _ hkj
        generalize x.ks[j] = kb at hkj hr2 hr3
        subst hka
        refine cw_seq (cw_block (cw_seq ?_))
        refine cw_drawn (by kernel_rfl) 13 (fun _ => false) (List.range 13) (by kernel_rfl) rfl ?_
        conv => whnf
        refine ⟨⟨by omega, by omega⟩, ?_⟩
        conv => whnf
        refine ⟨(kd kb).map u8v, by rw [List.length_map, kd_length]; rfl, by rwa [show o2 + j * 32 = o2 + ((j : Int)).toNat * 32 by omega] at hr2, ?_⟩
        conv => whnf
        refine ⟨⟨by omega, by omega⟩, ?_⟩
        conv => whnf
        refine ⟨_, hr' (B7.N.ext.trans x8) 4 _ rfl, ?_⟩
        conv => whnf
        refine ⟨⟨by omega, by omega⟩, ?_⟩
        conv => whnf
        refine ⟨_, by rwa [show o3 + j = o3 + ((j : Int)).toNat by omega] at hr3, ?_⟩
        conv => whnf
        refine ⟨_, rfl, .agg ((kd kb).map u8v).toArray, fun h9 e9 => key_fn kb h9, ?_⟩
        conv => whnf
        intro h9 x9
        conv => whnf
        refine ⟨.bool false, fun wd => by rw [dig_ne _ _ _ _ (kd_length kb) (kd_length kb), decide_eq_true rfl]; rfl, ?_⟩
        conv => whnf
        refine cw_false rfl (cw_skip ?_)
        refine cw_region rfl ?_
        exact ⟨j + 1, ⟨rfl, rfl, rfl, rfl, rfl, slot_i64 _ _ (by omega) (by omega), trivial⟩, ⟨by omega, x8.trans x9⟩, by omega⟩
      · refine cw_no rfl (by show ¬ (j : Int) < _; omega) (cw_exit ?_)
        clear B7 k7 hj hjl hkml
        refine cw_seq (cw_region rfl ?_)
        conv => whnf
        refine ⟨⟨by omega, by omega⟩, ?_⟩
        conv => whnf
        refine ⟨opC x (.slice ka x.ks.length kc), rfl, hr' B8.N.ext, ?_⟩
        conv => whnf
        refine ⟨_, rfl, _, asks_fn x B8.N.at_ I (by omega) (rks.more B8.N.ext) (by omega), ?_⟩
        rintro _ h9 ⟨v', lv, rfl, A9, t9, l9, f9⟩
        have B9 := B8.turn A9 t9
        have hlen9 := (asks_length wk sl id ws x).1
        have I9 := I.asks x
        have hkW : (askS wk sl id ws x).2.w.key.length = 32 := askS_key B8.N.at_.keys x
        have rkl9 := rks.more B9.N.ext
        have h08 : h.size ≤ h8.size := B8.N.ext.size
        have fl : ∀ b, ob lv b → h.size ≤ b := fun b hb => by have := (f9 b hb).1; omega
        conv => whnf
        intro h10 n10
        conv => whnf
        refine store_told n10.blk hkW (l9.more n10.ext) ?_
        intro H0 w10
        have z10 := n10.size
        have z11 := w10.size
        have x10 : ExtH h9 H0 := ⟨by omega, fun b hb => by rw [w10.block b (by omega), n10.block b hb]⟩
        have B10 := B9.more x10
        have yt10 := w10.new
        have l10 := l9.more x10
        clear n10 w10 B9 A9 t9
        -- the document's call
        obtain ⟨wa, wc, hwe, _⟩ := B10.fix
        subst hwe
        refine cw_seq (cw_mono (Q := fun e fr h' => e = .normal ∧ ∃ b13 b14 wv' mv, Sub [(1, .slice (some ⟨b, o, none⟩) os.length oc), (5, .pointer (some ⟨p, 0, none⟩)), (7, .pointer (some ⟨rb, 0, none⟩)), (9, .int .i64 (t : Int)), (12, .pointer (some ⟨h9.size, 0, none⟩)), (13, .pointer (some ⟨b13, 0, none⟩)), (14, .pointer (some ⟨b14, 0, none⟩))] fr ∧
            ExtH H0 h' ∧ Blk h' b13 (refC wk sl id wv') 53 ∧ Blk h' b14 (toldC (askS wk sl id ws x).2.n (askS wk sl id ws x).2.s mv (askS wk sl id ws x).2.w (askS wk sl id ws x).2.e) 37 ∧ OW h' wv' (askS wk sl id ws x).1 ∧ OI h' mv (askS wk sl id ws x).2.l ∧
            (∀ b, ob wv' b → ob (.slice wa ws.length wc) b ∨ H0.size ≤ b)) ?_ ?_)
        · refine cw_keeps (by kernel_rfl) 12 (fun b => b < H0.size) (.q 0 (.q 1 (.q 2 (.q 3 (.q 4 (.i3 5 (.q 6 (.q 7 (.q 8 (.i2 9 (.i1 10 (.i1 11 .leaf)) 10 (.i1 9 (.i1 11 .leaf)))))) 9 (.i2 5 (.q 6 (.q 7 (.q 8 (.i1 10 (.i1 11 .leaf))))) 10 (.i1 5 (.q 6 (.q 7 (.q 8 (.i1 11 .leaf)))))) 10 (.i2 5 (.q 6 (.q 7 (.q 8 (.i1 9 (.i1 11 .leaf))))) 9 (.i1 5 (.q 6 (.q 7 (.q 8 (.i1 11 .leaf)))))))))))) (by kernel_rfl) rfl ?_
          conv => whnf
          refine ⟨.agg (refC wk sl id (.slice wa ws.length wc)).toArray, fun h' e => ⟨refC wk sl id (.slice wa ws.length wc), rfl, (ExtP.blk' e B10.R B10.R.lt).all, rfl⟩, ?_⟩
          conv => whnf
          refine ⟨_, fun h' e => rfl, ?_⟩
          conv => whnf
          refine ⟨_, fun h' e => rfl, ?_⟩
          conv => whnf
          refine ⟨.pointer (some ⟨b, o + ((t : Int)).toNat * 5, none⟩), fun h' e => ⟨⟨by omega, by omega⟩, rfl⟩, ?_⟩
          conv => whnf
          refine ⟨.agg (opC x (.slice ka x.ks.length kc)).toArray, fun h' e => ⟨opC x (.slice ka x.ks.length kc), rfl, hr' (B10.N.ext.trans ⟨e.size, fun b hb => e.block b hb hb⟩), rfl⟩, ?_⟩
          have xH := ExtH.refl H0
          conv => whnf
          refine ⟨?_, ?_, ?_⟩
          · intro g1 u1
            have v1 := xH.trans u1
            conv => whnf
            refine ⟨_, rfl, _, right_fn x (B10.O.more v1) B8.N.at_.keys I (by omega) ((rks.more B10.N.ext).more v1) (by omega), ?_⟩
            rintro _ e1 ⟨wv', mv, rfl, oR, lR, q1, fR, gR⟩
            have fR' : ∀ b, ob wv' b → ob (.slice wa ws.length wc) b ∨ H0.size ≤ b := fun b hb => (fR b hb).imp (fun e => e) (fun e => by have := (v1).size; omega)
            obtain ⟨aR, cR, eR, _⟩ := OW.fix oR
            subst eR
            have hkR := hkW
            refine ⟨q1.toP _, ?_⟩
            have p1 := v1.trans q1
            intro g2 u2
            have v2 := p1.trans u2
            replace oR := OW.more oR u2
            replace lR := OI.more lR u2
            conv => whnf
            refine ⟨_, fun h' e => rfl, ?_⟩
            conv => whnf
            refine ⟨_, fun h' e => rfl, ?_⟩
            conv => whnf
            refine ⟨_, fun h' e => rfl, ?_⟩
            conv => whnf
            refine ⟨?_, ?_⟩
            · intro g3 u3
              have v3 := v2.trans u3
              replace oR := OW.more oR u3
              replace lR := OI.more lR u3
              conv => whnf
              intro e3 n3
              conv => whnf
              have y13 : Blk e3 g3.size (refC 0 0 0 (.slice none 0 0)) 53 := n3.blk
              have b13 : H0.size ≤ g3.size := v3.size
              have q3 := n3.ext
              have p3 := v3.trans q3
              clear n3
              replace oR := OW.more oR q3
              replace lR := OI.more lR q3
              refine ⟨q3.toP _, ?_⟩
              intro g4 u4
              have v4 := p3.trans u4
              replace oR := OW.more oR u4
              replace lR := OI.more lR u4
              replace y13 := u4.blk y13
              conv => whnf
              intro g5 u5
              have v5 := v4.trans u5
              replace oR := OW.more oR u5
              replace lR := OI.more lR u5
              replace y13 := u5.blk y13
              conv => whnf
              intro e5 n5
              conv => whnf
              have y14 : Blk e5 g5.size (toldC 0 false (.slice none 0 0) zeroW 0) 37 := n5.blk
              have b14 : H0.size ≤ g5.size := v5.size
              have q5 := n5.ext
              have p5 := v5.trans q5
              clear n5
              replace oR := OW.more oR q5
              replace lR := OI.more lR q5
              replace y13 := q5.blk y13
              refine ⟨q5.toP _, ?_⟩
              intro g6 u6
              have v6 := p5.trans u6
              replace oR := OW.more oR u6
              replace lR := OI.more lR u6
              replace y13 := u6.blk y13
              replace y14 := u6.blk y14
              conv => whnf
              intro g7 u7
              have v7 := v6.trans u7
              replace oR := OW.more oR u7
              replace lR := OI.more lR u7
              replace y13 := u7.blk y13
              replace y14 := u7.blk y14
              conv => whnf
              refine store_ref y13 ?_
              intro e7 w7
              have p7 : ExtH H0 e7 := ⟨by have := w7.size; have := v7.size; omega, fun b hb => by rw [w7.block b (by omega), v7.block b hb]⟩
              replace oR := OwnS.keep oR w7.chg (fun b hb e => by subst e; exact OwnS.ne oR y13 (by decide) hb)
              replace lR := OI.keep lR w7.chg (fun b hb e => by subst e; exact OwnS.ne lR y13 (by decide) hb)
              replace y14 := w7.blk y14 (blk_apart y14 y13 (by decide))
              replace y13 := w7.new
              refine ⟨⟨by have := w7.size; omega, fun b hb hlt => w7.block b (by have : b < H0.size := hb; omega)⟩, ?_⟩
              intro g8 u8
              have v8 := p7.trans u8
              replace oR := OW.more oR u8
              replace lR := OI.more lR u8
              replace y13 := u8.blk y13
              replace y14 := u8.blk y14
              conv => whnf
              intro g9 u9
              have v9 := v8.trans u9
              replace oR := OW.more oR u9
              replace lR := OI.more lR u9
              replace y13 := u9.blk y13
              replace y14 := u9.blk y14
              conv => whnf
              refine store_told y14 hkR lR ?_
              intro e9 w9
              have p9 : ExtH H0 e9 := ⟨by have := w9.size; have := v9.size; omega, fun b hb => by rw [w9.block b (by omega), v9.block b hb]⟩
              replace oR := OwnS.keep oR w9.chg (fun b hb e => by subst e; exact OwnS.ne oR y14 (by decide) hb)
              replace lR := OI.keep lR w9.chg (fun b hb e => by subst e; exact OwnS.ne lR y14 (by decide) hb)
              replace y13 := w9.blk y13 (blk_apart y13 y14 (by decide))
              replace y14 := w9.new
              exact ⟨rfl, _, _, _, _, ⟨rfl, rfl, rfl, rfl, rfl, rfl, rfl, trivial⟩, p9, y13, y14, oR, lR, fR'⟩
            · intro g10 u10
              have v10 := v2.trans u10
              replace oR := OW.more oR u10
              replace lR := OI.more lR u10
              conv => whnf
              intro e10 n10
              conv => whnf
              have y14 : Blk e10 g10.size (toldC 0 false (.slice none 0 0) zeroW 0) 37 := n10.blk
              have b14 : H0.size ≤ g10.size := v10.size
              have q10 := n10.ext
              have p10 := v10.trans q10
              clear n10
              replace oR := OW.more oR q10
              replace lR := OI.more lR q10
              refine ⟨q10.toP _, ?_⟩
              intro g11 u11
              have v11 := p10.trans u11
              replace oR := OW.more oR u11
              replace lR := OI.more lR u11
              replace y14 := u11.blk y14
              conv => whnf
              intro g12 u12
              have v12 := v11.trans u12
              replace oR := OW.more oR u12
              replace lR := OI.more lR u12
              replace y14 := u12.blk y14
              conv => whnf
              intro e12 n12
              conv => whnf
              have y13 : Blk e12 g12.size (refC 0 0 0 (.slice none 0 0)) 53 := n12.blk
              have b13 : H0.size ≤ g12.size := v12.size
              have q12 := n12.ext
              have p12 := v12.trans q12
              clear n12
              replace oR := OW.more oR q12
              replace lR := OI.more lR q12
              replace y14 := q12.blk y14
              refine ⟨q12.toP _, ?_⟩
              intro g13 u13
              have v13 := p12.trans u13
              replace oR := OW.more oR u13
              replace lR := OI.more lR u13
              replace y13 := u13.blk y13
              replace y14 := u13.blk y14
              conv => whnf
              intro g14 u14
              have v14 := v13.trans u14
              replace oR := OW.more oR u14
              replace lR := OI.more lR u14
              replace y13 := u14.blk y13
              replace y14 := u14.blk y14
              conv => whnf
              refine store_ref y13 ?_
              intro e14 w14
              have p14 : ExtH H0 e14 := ⟨by have := w14.size; have := v14.size; omega, fun b hb => by rw [w14.block b (by omega), v14.block b hb]⟩
              replace oR := OwnS.keep oR w14.chg (fun b hb e => by subst e; exact OwnS.ne oR y13 (by decide) hb)
              replace lR := OI.keep lR w14.chg (fun b hb e => by subst e; exact OwnS.ne lR y13 (by decide) hb)
              replace y14 := w14.blk y14 (blk_apart y14 y13 (by decide))
              replace y13 := w14.new
              refine ⟨⟨by have := w14.size; omega, fun b hb hlt => w14.block b (by have : b < H0.size := hb; omega)⟩, ?_⟩
              intro g15 u15
              have v15 := p14.trans u15
              replace oR := OW.more oR u15
              replace lR := OI.more lR u15
              replace y13 := u15.blk y13
              replace y14 := u15.blk y14
              conv => whnf
              intro g16 u16
              have v16 := v15.trans u16
              replace oR := OW.more oR u16
              replace lR := OI.more lR u16
              replace y13 := u16.blk y13
              replace y14 := u16.blk y14
              conv => whnf
              refine store_told y14 hkR lR ?_
              intro e16 w16
              have p16 : ExtH H0 e16 := ⟨by have := w16.size; have := v16.size; omega, fun b hb => by rw [w16.block b (by omega), v16.block b hb]⟩
              replace oR := OwnS.keep oR w16.chg (fun b hb e => by subst e; exact OwnS.ne oR y14 (by decide) hb)
              replace lR := OI.keep lR w16.chg (fun b hb e => by subst e; exact OwnS.ne lR y14 (by decide) hb)
              replace y13 := w16.blk y13 (blk_apart y13 y14 (by decide))
              replace y14 := w16.new
              exact ⟨rfl, _, _, _, _, ⟨rfl, rfl, rfl, rfl, rfl, rfl, rfl, trivial⟩, p16, y13, y14, oR, lR, fR'⟩
          · intro g17 u17
            have v17 := xH.trans u17
            conv => whnf
            intro e17 n17
            conv => whnf
            have y13 : Blk e17 g17.size (refC 0 0 0 (.slice none 0 0)) 53 := n17.blk
            have b13 : H0.size ≤ g17.size := v17.size
            have q17 := n17.ext
            have p17 := v17.trans q17
            clear n17
            refine ⟨q17.toP _, ?_⟩
            intro g18 u18
            have v18 := p17.trans u18
            replace y13 := u18.blk y13
            conv => whnf
            refine ⟨?_, ?_⟩
            · intro g19 u19
              have v19 := v18.trans u19
              replace y13 := u19.blk y13
              conv => whnf
              refine ⟨_, rfl, _, right_fn x (B10.O.more v19) B8.N.at_.keys I (by omega) ((rks.more B10.N.ext).more v19) (by omega), ?_⟩
              rintro _ e19 ⟨wv', mv, rfl, oR, lR, q19, fR, gR⟩
              have fR' : ∀ b, ob wv' b → ob (.slice wa ws.length wc) b ∨ H0.size ≤ b := fun b hb => (fR b hb).imp (fun e => e) (fun e => by have := (v19).size; omega)
              obtain ⟨aR, cR, eR, _⟩ := OW.fix oR
              subst eR
              have hkR := hkW
              refine ⟨q19.toP _, ?_⟩
              have p19 := v19.trans q19
              replace y13 := q19.blk y13
              intro g20 u20
              have v20 := p19.trans u20
              replace oR := OW.more oR u20
              replace lR := OI.more lR u20
              replace y13 := u20.blk y13
              conv => whnf
              refine ⟨_, fun h' e => rfl, ?_⟩
              conv => whnf
              refine ⟨_, fun h' e => rfl, ?_⟩
              conv => whnf
              refine ⟨_, fun h' e => rfl, ?_⟩
              conv => whnf
              intro g21 u21
              have v21 := v20.trans u21
              replace oR := OW.more oR u21
              replace lR := OI.more lR u21
              replace y13 := u21.blk y13
              conv => whnf
              intro e21 n21
              conv => whnf
              have y14 : Blk e21 g21.size (toldC 0 false (.slice none 0 0) zeroW 0) 37 := n21.blk
              have b14 : H0.size ≤ g21.size := v21.size
              have q21 := n21.ext
              have p21 := v21.trans q21
              clear n21
              replace oR := OW.more oR q21
              replace lR := OI.more lR q21
              replace y13 := q21.blk y13
              refine ⟨q21.toP _, ?_⟩
              intro g22 u22
              have v22 := p21.trans u22
              replace oR := OW.more oR u22
              replace lR := OI.more lR u22
              replace y13 := u22.blk y13
              replace y14 := u22.blk y14
              conv => whnf
              intro g23 u23
              have v23 := v22.trans u23
              replace oR := OW.more oR u23
              replace lR := OI.more lR u23
              replace y13 := u23.blk y13
              replace y14 := u23.blk y14
              conv => whnf
              refine store_ref y13 ?_
              intro e23 w23
              have p23 : ExtH H0 e23 := ⟨by have := w23.size; have := v23.size; omega, fun b hb => by rw [w23.block b (by omega), v23.block b hb]⟩
              replace oR := OwnS.keep oR w23.chg (fun b hb e => by subst e; exact OwnS.ne oR y13 (by decide) hb)
              replace lR := OI.keep lR w23.chg (fun b hb e => by subst e; exact OwnS.ne lR y13 (by decide) hb)
              replace y14 := w23.blk y14 (blk_apart y14 y13 (by decide))
              replace y13 := w23.new
              refine ⟨⟨by have := w23.size; omega, fun b hb hlt => w23.block b (by have : b < H0.size := hb; omega)⟩, ?_⟩
              intro g24 u24
              have v24 := p23.trans u24
              replace oR := OW.more oR u24
              replace lR := OI.more lR u24
              replace y13 := u24.blk y13
              replace y14 := u24.blk y14
              conv => whnf
              intro g25 u25
              have v25 := v24.trans u25
              replace oR := OW.more oR u25
              replace lR := OI.more lR u25
              replace y13 := u25.blk y13
              replace y14 := u25.blk y14
              conv => whnf
              refine store_told y14 hkR lR ?_
              intro e25 w25
              have p25 : ExtH H0 e25 := ⟨by have := w25.size; have := v25.size; omega, fun b hb => by rw [w25.block b (by omega), v25.block b hb]⟩
              replace oR := OwnS.keep oR w25.chg (fun b hb e => by subst e; exact OwnS.ne oR y14 (by decide) hb)
              replace lR := OI.keep lR w25.chg (fun b hb e => by subst e; exact OwnS.ne lR y14 (by decide) hb)
              replace y13 := w25.blk y13 (blk_apart y13 y14 (by decide))
              replace y14 := w25.new
              exact ⟨rfl, _, _, _, _, ⟨rfl, rfl, rfl, rfl, rfl, rfl, rfl, trivial⟩, p25, y13, y14, oR, lR, fR'⟩
            · intro g26 u26
              have v26 := v18.trans u26
              replace y13 := u26.blk y13
              conv => whnf
              intro e26 n26
              conv => whnf
              have y14 : Blk e26 g26.size (toldC 0 false (.slice none 0 0) zeroW 0) 37 := n26.blk
              have b14 : H0.size ≤ g26.size := v26.size
              have q26 := n26.ext
              have p26 := v26.trans q26
              clear n26
              replace y13 := q26.blk y13
              refine ⟨q26.toP _, ?_⟩
              intro g27 u27
              have v27 := p26.trans u27
              replace y13 := u27.blk y13
              replace y14 := u27.blk y14
              conv => whnf
              intro g28 u28
              have v28 := v27.trans u28
              replace y13 := u28.blk y13
              replace y14 := u28.blk y14
              conv => whnf
              refine ⟨_, rfl, _, right_fn x (B10.O.more v28) B8.N.at_.keys I (by omega) ((rks.more B10.N.ext).more v28) (by omega), ?_⟩
              rintro _ e28 ⟨wv', mv, rfl, oR, lR, q28, fR, gR⟩
              have fR' : ∀ b, ob wv' b → ob (.slice wa ws.length wc) b ∨ H0.size ≤ b := fun b hb => (fR b hb).imp (fun e => e) (fun e => by have := (v28).size; omega)
              obtain ⟨aR, cR, eR, _⟩ := OW.fix oR
              subst eR
              have hkR := hkW
              refine ⟨q28.toP _, ?_⟩
              have p28 := v28.trans q28
              replace y13 := q28.blk y13
              replace y14 := q28.blk y14
              intro g29 u29
              have v29 := p28.trans u29
              replace oR := OW.more oR u29
              replace lR := OI.more lR u29
              replace y13 := u29.blk y13
              replace y14 := u29.blk y14
              conv => whnf
              refine ⟨_, fun h' e => rfl, ?_⟩
              conv => whnf
              refine ⟨_, fun h' e => rfl, ?_⟩
              conv => whnf
              refine ⟨_, fun h' e => rfl, ?_⟩
              conv => whnf
              intro g30 u30
              have v30 := v29.trans u30
              replace oR := OW.more oR u30
              replace lR := OI.more lR u30
              replace y13 := u30.blk y13
              replace y14 := u30.blk y14
              conv => whnf
              refine store_ref y13 ?_
              intro e30 w30
              have p30 : ExtH H0 e30 := ⟨by have := w30.size; have := v30.size; omega, fun b hb => by rw [w30.block b (by omega), v30.block b hb]⟩
              replace oR := OwnS.keep oR w30.chg (fun b hb e => by subst e; exact OwnS.ne oR y13 (by decide) hb)
              replace lR := OI.keep lR w30.chg (fun b hb e => by subst e; exact OwnS.ne lR y13 (by decide) hb)
              replace y14 := w30.blk y14 (blk_apart y14 y13 (by decide))
              replace y13 := w30.new
              refine ⟨⟨by have := w30.size; omega, fun b hb hlt => w30.block b (by have : b < H0.size := hb; omega)⟩, ?_⟩
              intro g31 u31
              have v31 := p30.trans u31
              replace oR := OW.more oR u31
              replace lR := OI.more lR u31
              replace y13 := u31.blk y13
              replace y14 := u31.blk y14
              conv => whnf
              intro g32 u32
              have v32 := v31.trans u32
              replace oR := OW.more oR u32
              replace lR := OI.more lR u32
              replace y13 := u32.blk y13
              replace y14 := u32.blk y14
              conv => whnf
              refine store_told y14 hkR lR ?_
              intro e32 w32
              have p32 : ExtH H0 e32 := ⟨by have := w32.size; have := v32.size; omega, fun b hb => by rw [w32.block b (by omega), v32.block b hb]⟩
              replace oR := OwnS.keep oR w32.chg (fun b hb e => by subst e; exact OwnS.ne oR y14 (by decide) hb)
              replace lR := OI.keep lR w32.chg (fun b hb e => by subst e; exact OwnS.ne lR y14 (by decide) hb)
              replace y13 := w32.blk y13 (blk_apart y13 y14 (by decide))
              replace y14 := w32.new
              exact ⟨rfl, _, _, _, _, ⟨rfl, rfl, rfl, rfl, rfl, rfl, rfl, trivial⟩, p32, y13, y14, oR, lR, fR'⟩
          · intro g33 u33
            have v33 := xH.trans u33
            conv => whnf
            intro e33 n33
            conv => whnf
            have y14 : Blk e33 g33.size (toldC 0 false (.slice none 0 0) zeroW 0) 37 := n33.blk
            have b14 : H0.size ≤ g33.size := v33.size
            have q33 := n33.ext
            have p33 := v33.trans q33
            clear n33
            refine ⟨q33.toP _, ?_⟩
            intro g34 u34
            have v34 := p33.trans u34
            replace y14 := u34.blk y14
            conv => whnf
            refine ⟨?_, ?_⟩
            · intro g35 u35
              have v35 := v34.trans u35
              replace y14 := u35.blk y14
              conv => whnf
              refine ⟨_, rfl, _, right_fn x (B10.O.more v35) B8.N.at_.keys I (by omega) ((rks.more B10.N.ext).more v35) (by omega), ?_⟩
              rintro _ e35 ⟨wv', mv, rfl, oR, lR, q35, fR, gR⟩
              have fR' : ∀ b, ob wv' b → ob (.slice wa ws.length wc) b ∨ H0.size ≤ b := fun b hb => (fR b hb).imp (fun e => e) (fun e => by have := (v35).size; omega)
              obtain ⟨aR, cR, eR, _⟩ := OW.fix oR
              subst eR
              have hkR := hkW
              refine ⟨q35.toP _, ?_⟩
              have p35 := v35.trans q35
              replace y14 := q35.blk y14
              intro g36 u36
              have v36 := p35.trans u36
              replace oR := OW.more oR u36
              replace lR := OI.more lR u36
              replace y14 := u36.blk y14
              conv => whnf
              refine ⟨_, fun h' e => rfl, ?_⟩
              conv => whnf
              refine ⟨_, fun h' e => rfl, ?_⟩
              conv => whnf
              refine ⟨_, fun h' e => rfl, ?_⟩
              conv => whnf
              intro g37 u37
              have v37 := v36.trans u37
              replace oR := OW.more oR u37
              replace lR := OI.more lR u37
              replace y14 := u37.blk y14
              conv => whnf
              intro e37 n37
              conv => whnf
              have y13 : Blk e37 g37.size (refC 0 0 0 (.slice none 0 0)) 53 := n37.blk
              have b13 : H0.size ≤ g37.size := v37.size
              have q37 := n37.ext
              have p37 := v37.trans q37
              clear n37
              replace oR := OW.more oR q37
              replace lR := OI.more lR q37
              replace y14 := q37.blk y14
              refine ⟨q37.toP _, ?_⟩
              intro g38 u38
              have v38 := p37.trans u38
              replace oR := OW.more oR u38
              replace lR := OI.more lR u38
              replace y13 := u38.blk y13
              replace y14 := u38.blk y14
              conv => whnf
              intro g39 u39
              have v39 := v38.trans u39
              replace oR := OW.more oR u39
              replace lR := OI.more lR u39
              replace y13 := u39.blk y13
              replace y14 := u39.blk y14
              conv => whnf
              refine store_ref y13 ?_
              intro e39 w39
              have p39 : ExtH H0 e39 := ⟨by have := w39.size; have := v39.size; omega, fun b hb => by rw [w39.block b (by omega), v39.block b hb]⟩
              replace oR := OwnS.keep oR w39.chg (fun b hb e => by subst e; exact OwnS.ne oR y13 (by decide) hb)
              replace lR := OI.keep lR w39.chg (fun b hb e => by subst e; exact OwnS.ne lR y13 (by decide) hb)
              replace y14 := w39.blk y14 (blk_apart y14 y13 (by decide))
              replace y13 := w39.new
              refine ⟨⟨by have := w39.size; omega, fun b hb hlt => w39.block b (by have : b < H0.size := hb; omega)⟩, ?_⟩
              intro g40 u40
              have v40 := p39.trans u40
              replace oR := OW.more oR u40
              replace lR := OI.more lR u40
              replace y13 := u40.blk y13
              replace y14 := u40.blk y14
              conv => whnf
              intro g41 u41
              have v41 := v40.trans u41
              replace oR := OW.more oR u41
              replace lR := OI.more lR u41
              replace y13 := u41.blk y13
              replace y14 := u41.blk y14
              conv => whnf
              refine store_told y14 hkR lR ?_
              intro e41 w41
              have p41 : ExtH H0 e41 := ⟨by have := w41.size; have := v41.size; omega, fun b hb => by rw [w41.block b (by omega), v41.block b hb]⟩
              replace oR := OwnS.keep oR w41.chg (fun b hb e => by subst e; exact OwnS.ne oR y14 (by decide) hb)
              replace lR := OI.keep lR w41.chg (fun b hb e => by subst e; exact OwnS.ne lR y14 (by decide) hb)
              replace y13 := w41.blk y13 (blk_apart y13 y14 (by decide))
              replace y14 := w41.new
              exact ⟨rfl, _, _, _, _, ⟨rfl, rfl, rfl, rfl, rfl, rfl, rfl, trivial⟩, p41, y13, y14, oR, lR, fR'⟩
            · intro g42 u42
              have v42 := v34.trans u42
              replace y14 := u42.blk y14
              conv => whnf
              intro e42 n42
              conv => whnf
              have y13 : Blk e42 g42.size (refC 0 0 0 (.slice none 0 0)) 53 := n42.blk
              have b13 : H0.size ≤ g42.size := v42.size
              have q42 := n42.ext
              have p42 := v42.trans q42
              clear n42
              replace y14 := q42.blk y14
              refine ⟨q42.toP _, ?_⟩
              intro g43 u43
              have v43 := p42.trans u43
              replace y13 := u43.blk y13
              replace y14 := u43.blk y14
              conv => whnf
              intro g44 u44
              have v44 := v43.trans u44
              replace y13 := u44.blk y13
              replace y14 := u44.blk y14
              conv => whnf
              refine ⟨_, rfl, _, right_fn x (B10.O.more v44) B8.N.at_.keys I (by omega) ((rks.more B10.N.ext).more v44) (by omega), ?_⟩
              rintro _ e44 ⟨wv', mv, rfl, oR, lR, q44, fR, gR⟩
              have fR' : ∀ b, ob wv' b → ob (.slice wa ws.length wc) b ∨ H0.size ≤ b := fun b hb => (fR b hb).imp (fun e => e) (fun e => by have := (v44).size; omega)
              obtain ⟨aR, cR, eR, _⟩ := OW.fix oR
              subst eR
              have hkR := hkW
              refine ⟨q44.toP _, ?_⟩
              have p44 := v44.trans q44
              replace y13 := q44.blk y13
              replace y14 := q44.blk y14
              intro g45 u45
              have v45 := p44.trans u45
              replace oR := OW.more oR u45
              replace lR := OI.more lR u45
              replace y13 := u45.blk y13
              replace y14 := u45.blk y14
              conv => whnf
              refine ⟨_, fun h' e => rfl, ?_⟩
              conv => whnf
              refine ⟨_, fun h' e => rfl, ?_⟩
              conv => whnf
              refine ⟨_, fun h' e => rfl, ?_⟩
              conv => whnf
              intro g46 u46
              have v46 := v45.trans u46
              replace oR := OW.more oR u46
              replace lR := OI.more lR u46
              replace y13 := u46.blk y13
              replace y14 := u46.blk y14
              conv => whnf
              refine store_ref y13 ?_
              intro e46 w46
              have p46 : ExtH H0 e46 := ⟨by have := w46.size; have := v46.size; omega, fun b hb => by rw [w46.block b (by omega), v46.block b hb]⟩
              replace oR := OwnS.keep oR w46.chg (fun b hb e => by subst e; exact OwnS.ne oR y13 (by decide) hb)
              replace lR := OI.keep lR w46.chg (fun b hb e => by subst e; exact OwnS.ne lR y13 (by decide) hb)
              replace y14 := w46.blk y14 (blk_apart y14 y13 (by decide))
              replace y13 := w46.new
              refine ⟨⟨by have := w46.size; omega, fun b hb hlt => w46.block b (by have : b < H0.size := hb; omega)⟩, ?_⟩
              intro g47 u47
              have v47 := p46.trans u47
              replace oR := OW.more oR u47
              replace lR := OI.more lR u47
              replace y13 := u47.blk y13
              replace y14 := u47.blk y14
              conv => whnf
              intro g48 u48
              have v48 := v47.trans u48
              replace oR := OW.more oR u48
              replace lR := OI.more lR u48
              replace y13 := u48.blk y13
              replace y14 := u48.blk y14
              conv => whnf
              refine store_told y14 hkR lR ?_
              intro e48 w48
              have p48 : ExtH H0 e48 := ⟨by have := w48.size; have := v48.size; omega, fun b hb => by rw [w48.block b (by omega), v48.block b hb]⟩
              replace oR := OwnS.keep oR w48.chg (fun b hb e => by subst e; exact OwnS.ne oR y14 (by decide) hb)
              replace lR := OI.keep lR w48.chg (fun b hb e => by subst e; exact OwnS.ne lR y14 (by decide) hb)
              replace y13 := w48.blk y13 (blk_apart y13 y14 (by decide))
              replace y14 := w48.new
              exact ⟨rfl, _, _, _, _, ⟨rfl, rfl, rfl, rfl, rfl, rfl, rfl, trivial⟩, p48, y13, y14, oR, lR, fR'⟩
        · rintro e fr h11 ⟨rfl, b13, b14, wv', mv, hsub, x11, y13, y14, o11, m11, f11⟩
          refine cw_keep _ hsub ?_
          have B11 := B10.more x11
          have yt11 := x11.blk yt10
          have l11 := l10.more x11
          obtain ⟨a11, c11, e11, _⟩ := OW.fix o11
          subst e11
          have hv11 : ∀ b, ob v' b → b < H0.size := fun b hb => OwnS.lt B10.N.at_.own hb
          have h0H : h.size ≤ H0.size := B10.N.ext.size
          refine cw_seq (cw_region rfl ?_)
          conv => whnf
          refine ⟨_, rfl, y13.all, ?_⟩
          conv => whnf
          refine store_ref B11.R ?_
          intro h12 w12
          have B12 := B11.put w12 o11 (fun b hb => by
            rcases f11 b hb with e | e
            · exact ⟨B11.wvv b e, B11.w0 b e⟩
            · exact ⟨fun e' => by have := hv11 b e'; omega, by omega⟩)
          have yt12 := w12.blk yt11 (blk_apart yt11 B11.R (by decide))
          have y14' := w12.blk y14 (blk_apart y14 B11.R (by decide))
          have l12 := OI.keep l11 w12.chg (fun b hb e => by subst e; exact OwnS.ne l11 B11.R (by decide) hb)
          have m12 := OI.keep m11 w12.chg (fun b hb e => by subst e; exact OwnS.ne m11 B11.R (by decide) hb)
          clear w12 B11 yt11 l11 m11 y13 y14 o11 B10 yt10 l10
          have hln := told_length (n := (askS wk sl id ws x).2.n) (s := (askS wk sl id ws x).2.s) (e := (askS wk sl id ws x).2.e) (lv := lv) hkW
          have hln2 := told_length (n := (askS wk sl id ws x).2.n) (s := (askS wk sl id ws x).2.s) (e := (askS wk sl id ws x).2.e) (lv := mv) hkW
          refine cw_seq (cw_seq (cw_region rfl ?_))
          conv => whnf
          refine ⟨_, by rw [hln]; rfl, yt12.all, ?_⟩
          conv => whnf
          refine ⟨_, by rw [hln2]; rfl, y14'.all, ?_⟩
          conv => whnf
          refine ⟨_, rfl, _, same_yes hkW l12.r m12.r, ?_⟩
          rintro _ h13 ⟨rfl, x13⟩
          have B13 := B12.more x13
          have yt13 := x13.blk yt12
          have l13 := l12.more x13
          clear B12 yt12 l12 m12 y14'
          conv => whnf
          refine cw_false rfl (cw_skip ?_)
          refine cw_seq (cw_region rfl ?_)
          conv => whnf
          refine ⟨_, rfl, _, all_fn B13.N.at_ hwk (by omega), ?_⟩
          rintro al h14 ⟨o14, x14, f14⟩
          obtain ⟨aa, ac, hae, hal⟩ := o14.fix
          subst hae
          generalize hL : (askS wk sl id ws x).1.filter shown = L at o14 f14 hal
          generalize hT : (askS wk sl id ws x).2 = T at yt13 l13 hkW hln
          generalize hW : (askS wk sl id ws x).1 = W at B13 I9 hlen9
          refine cw_seq (cw_seq (cw_region rfl ?_))
          refine cw_block ?_
          refine cw_loop (S := Nat) (fun j => [(1, .slice (some ⟨b, o, none⟩) os.length oc), (5, .pointer (some ⟨p, 0, none⟩)), (7, .pointer (some ⟨rb, 0, none⟩)), (9, .int .i64 (t : Int)), (12, .pointer (some ⟨h9.size, 0, none⟩)), (15, .slice aa L.length ac), (16, .int .i64 (j : Int))])
            (fun j h' => j ≤ L.length ∧ ExtH h13 h' ∧ ∃ xs, OwnS h' 31 37 (.slice aa L.length ac) L.length xs) (fun j => L.length - j) 0 ⟨rfl, rfl, rfl, rfl, rfl, rfl, rfl, trivial⟩ ⟨by omega, x14, _, o14⟩ ?_
          rintro j h15 ⟨hj, x15, xs, o15⟩
          refine cw_seq (cw_seq (cw_region rfl ?_))
          conv => whnf
          by_cases hjl : j < L.length
          · refine cw_yes rfl (by show (j : Int) < _; omega) (cw_skip ?_)
            obtain ⟨g, c, hv, put⟩ := own_set o15 (off := 0 + ((j : Int)).toNat * 37 + 1) (by omega) (.int .i64 77)
            injection hv with hv1 _ hv2
            subst hv1 hv2
            have hg := f14 g (ob_slice.2 rfl)
            refine cw_seq (cw_block (cw_region rfl ?_))
            conv => whnf
            refine ⟨⟨by omega, by omega⟩, ?_⟩
            conv => whnf
            refine put _ (fun h16 o16 c16 => ?_)
            refine cw_region rfl ?_
            exact ⟨j + 1, ⟨rfl, rfl, rfl, rfl, rfl, rfl, slot_i64 _ _ (by omega) (by omega), trivial⟩, ⟨by omega, ⟨by have := x15.size; have := c16.size; omega, fun b hb => by rw [c16.block b (by have := x15.size; omega) (by omega), x15.block b hb]⟩, _, o16⟩, by omega⟩
          · refine cw_no rfl (by show ¬ (j : Int) < _; omega) (cw_exit ?_)
            have B15 := B13.more x15
            have yt15 := x15.blk yt13
            have l15 := l13.more x15
            clear B13 yt13 l13 x15 o15 o14 hj hjl x14 f14
            obtain ⟨ta, tc, hte, htl⟩ := RI.fix l15.r
            subst hte
            refine cw_seq (cw_seq (cw_region rfl ?_))
            refine cw_block ?_
            refine cw_loop (S := Nat) (fun j => [(1, .slice (some ⟨b, o, none⟩) os.length oc), (5, .pointer (some ⟨p, 0, none⟩)), (7, .pointer (some ⟨rb, 0, none⟩)), (9, .int .i64 (t : Int)), (12, .pointer (some ⟨h9.size, 0, none⟩)), (17, .int .i64 (j : Int))])
              (fun j h' => j ≤ T.l.length ∧ Both h h' p rb v' (.slice a11 W.length c11) wk sl id W W ∧ Blk h' h9.size (toldC T.n T.s (.slice ta T.l.length tc) T.w T.e) 37 ∧ ∃ xs, OwnS h' 3 1 (.slice ta T.l.length tc) T.l.length xs) (fun j => T.l.length - j) 0 ⟨rfl, rfl, rfl, rfl, rfl, rfl, trivial⟩ ⟨by omega, B15, yt15, _, l15⟩ ?_
            clear B15 yt15 l15
            rintro j h16 ⟨hj, B16, yt16, xs, l16⟩
            refine cw_seq (cw_seq (cw_region rfl ?_))
            conv => whnf
            refine ⟨_, yt16.rd (o := 2) rfl, ?_⟩
            conv => whnf
            by_cases hjl : j < T.l.length
            · refine cw_yes rfl (by show (j : Int) < _; omega) (cw_skip ?_)
              obtain ⟨g, c, hv, put⟩ := own_set l16 (off := 0 + ((j : Int)).toNat) (by omega) (.int .i64 78)
              injection hv with hv1 _ hv2
              subst hv1 hv2
              have hob : ob (.slice (some ⟨g, 0, none⟩) T.l.length tc) g := ob_slice.2 rfl
              refine cw_seq (cw_block (cw_region rfl ?_))
              conv => whnf
              refine ⟨_, yt16.rd (o := 2) rfl, ?_⟩
              conv => whnf
              refine ⟨⟨by omega, by omega⟩, ?_⟩
              conv => whnf
              refine put _ (fun h17 o17 c17 => ?_)
              have B17 := B16.keep c17 (fun b hb => by
                subst hb
                exact ⟨fl _ hob, fun e => by subst e; exact OwnS.ne l16 B16.N.at_.blk (by decide) hob, fun e => by subst e; exact OwnS.ne l16 B16.R (by decide) hob, fun e => own_apart B16.N.at_.own l16 (by decide) e hob, fun e => own_apart B16.O l16 (by decide) e hob⟩)
              have yt17 := c17.blk yt16 (fun e => by subst e; exact OwnS.ne l16 yt16 (by decide) hob)
              refine cw_region rfl ?_
              exact ⟨j + 1, ⟨rfl, rfl, rfl, rfl, rfl, slot_i64 _ _ (by omega) (by omega), trivial⟩, ⟨by omega, B17, yt17, _, o17⟩, by omega⟩
            · refine cw_no rfl (by show ¬ (j : Int) < _; omega) (cw_exit ?_)
              refine cw_seq (cw_region rfl ?_)
              conv => whnf
              refine ⟨_, rfl, B16.R.all, ?_⟩
              conv => whnf
              refine ⟨_, rfl, _, is2_fn B16.N.at_ B16.O I9 (by omega), ?_⟩
              rintro _ h17 ⟨rfl, x17⟩
              conv => whnf
              refine cw_false rfl (cw_skip ?_)
              refine cw_region rfl ?_
              exact ⟨t + 1, ⟨rfl, rfl, rfl, slot_i64 _ _ (by omega) (by omega), trivial⟩, ⟨by omega, _, _, _, B16.more x17, I9, by omega⟩, by omega⟩
    · refine cw_no rfl (by show ¬ (t : Int) < _; omega) (cw_exit ?_)
      refine cw_seq (cw_region rfl ?_)
      conv => whnf
      refine ⟨_, rfl, _, awake_fn h5, ?_⟩
      rintro _ h6 ⟨rfl, x6⟩
      exact cw_ret ⟨rfl, (B5.N.more x6).ext⟩
  · refine ⟨_, rfl, _, new_no wk sl id hl ha, ?_⟩
    rintro _ h1 ⟨rfl, rfl⟩
    conv => whnf
    refine cw_seq (cw_region rfl ?_)
    conv => whnf
    refine ⟨_, ya.rd (o := 0) rfl, ?_⟩
    conv => whnf
    refine ⟨_, ya.rd (o := 1) rfl, ?_⟩
    conv => whnf
    refine ⟨_, ya.rd (o := 2) rfl, ?_⟩
    conv => whnf
    refine ⟨_, rfl, _, rnew_no wk sl id hl h1, ?_⟩
    rintro _ h2 ⟨rfl, x2⟩
    conv => whnf
    intro h3 n3
    have y3 : Blk h3 h2.size (refC 0 0 0 (.slice none 0 0)) 53 := n3.blk
    have x3 := n3.ext
    have z3 := n3.size
    clear n3
    conv => whnf
    refine store_ref y3 ?_
    intro h4 w4
    have z4 := w4.size
    have x24 : ExtH h2 h4 := ⟨by omega, fun b hb => by rw [w4.block b (by omega), x3.block b hb]⟩
    conv => whnf
    refine cw_seq (cw_seq (cw_region rfl ?_))
    conv => whnf
    refine cw_true rfl ?_
    refine cw_seq (cw_region rfl ?_)
    conv => whnf
    refine ⟨_, rfl, _, awake_fn h4, ?_⟩
    rintro _ h5 ⟨rfl, x5⟩
    conv => whnf
    exact cw_ret ⟨rfl, ((xa.trans x2).trans x24).trans x5⟩
end Go.Proofs.Ytcmjgkjnnmfijaa