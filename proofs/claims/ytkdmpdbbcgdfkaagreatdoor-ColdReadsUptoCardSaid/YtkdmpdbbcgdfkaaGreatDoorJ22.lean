/-
  treadleref23.Read: the walk.
-/
import Derived.Test.YtkdmpdbbcgdfkaaGreatDoorJ21
namespace Go.Proofs.YtkdmpdbbcgdfkaaGreatDoor
open Go Vm
set_option maxRecDepth 100000
set_option linter.unusedVariables false
set_option linter.unusedSimpArgs false
/-- a piece of code up to a frame that we say, then the rest -/
theorem Vm.cw_cut {ds : List Deferred} {P : Program} {n : Nat} {Q : Exit → Fr → Heap → Prop} {fr : Fr} {h : Heap} {c d : Code} {S : Type} (F : S → Fr) (I : S → Heap → Prop)
    (H1 : CwD ds P n c (thenQ (fun fr' h' => ∃ s, Sub (F s) fr' ∧ I s h') Q) fr h) (H2 : ∀ s h', I s h' → CwD ds P n d Q (F s) h') : CwD ds P n (.seq c d) Q fr h :=
  cw_seq (cw_mono H1 fun e fr' h' hq => by
    cases e with
    | normal => obtain ⟨s, hs, hI⟩ := hq; exact cw_keep (F s) hs (H2 s h' hI)
    | _ => exact hq)
theorem own_lt {h : Heap} {e : TypeId} {k : Nat} {v : Value} {n : Nat} {xs : List Value} (H : OwnS h e k v n xs) (x : Nat) (hx : ob v x) : x < h.size := by
  rcases H.2 with ⟨hv, _⟩ | ⟨g, cap, tl, hv, hg, _⟩
  · rw [hv] at hx; exact (ob_nil hx).elim
  · rw [hv, ob_slice] at hx; subst hx; exact hg.lt
/-- what stays as it is while an answer is read: the result -/
structure FR (h0 h : Heap) (p : Nat) : Prop where
  y2 : Blk h h0.size anZ 27
  o1 : h0.size < p
  ext : ExtH h0 h
theorem FR.step {h0 h h' : Heap} {p : Nat} (F : FR h0 h p) {S : Nat → Prop} (c : Chg S h h') (hS : ∀ x, S x → p ≤ x) : FR h0 h' p := by
  have o1 := F.o1
  have z := F.ext.size
  refine ⟨blk_keep F.y2 c (fun h => by have := hS _ h; omega), o1, ⟨Nat.le_trans z c.size, fun x hx => ?_⟩⟩
  rw [c.block x (by omega) (fun h => by have := hS _ h; omega), F.ext.block x hx]
theorem FR.more {h0 h h' : Heap} {p : Nat} (F : FR h0 h p) (e : ExtH h h') : FR h0 h' p := F.step (e.chg (S := fun _ => False)) (fun _ h => h.elim)
/-- the diagnostics so far: what comes of them in the end -/
def DJ (l : List UInt8) (D : List Cd.Dg × Cd.St) (ds : List Cd.Dg) (m : Nat) : Cd.St → Prop
  | none => D.2 = none
  | some a => ds.length + m ≤ 64 ∧ ds ++ (Cd.rdDiags l m (some a)).1 = D.1 ∧ (Cd.rdDiags l m (some a)).2 = D.2
theorem Cd.readA_lost {l t : List UInt8} {s0 s1 s2 : Cd.St} {code n : Nat} (h0 : Cd.raw l 3 (some 0) = (t, s0)) (ht : t = [116, 65, 49]) (h1 : Cd.count l Cd.most s0 = (code, s1)) (h2 : Cd.count l 64 s1 = (n, s2)) (h3 : (Cd.rdDiags l n s2).2 = none) : Cd.readA l = none := by
  have h4 : Cd.list l 64 4096 none = ([], none) := rfl
  have h5 : Cd.text l 2097152 none = ([], none) := rfl
  have h6 : Cd.count l 65536 none = (0, none) := rfl
  have h7 : Cd.rdReads l 0 none = ([], none) := rfl
  rw [Cd.readA_eq h0 ht h1 h2 (show Cd.rdDiags l n s2 = ((Cd.rdDiags l n s2).1, none) from Prod.ext rfl h3) h4 h5 h6 h7, if_neg (fun h => by cases h.1)]
theorem set_dig {tx : List UInt8} {a b : Int} {dg : List UInt8} {k : Nat} (hk : k < dg.length) (hd : dg.length ≤ 32) :
    (seC ⟨tx, a, b, dg.take k ++ (List.replicate 32 (0 : UInt8)).drop k⟩).set (3 + k) (u8v (dg.getD k 0)) = seC ⟨tx, a, b, dg.take (k + 1) ++ (List.replicate 32 (0 : UInt8)).drop (k + 1)⟩ := by
  have e : dg.take (k + 1) = dg.take k ++ [dg.getD k 0] := by
    rw [List.take_add_one, List.getElem?_eq_getElem hk, List.getD_eq_getElem?_getD, List.getElem?_eq_getElem hk]; rfl
  have e2 : (List.replicate 32 (0 : UInt8)).drop k = 0 :: (List.replicate 32 (0 : UInt8)).drop (k + 1) := by
    rw [List.drop_eq_getElem_cons (by simp; omega), List.getElem_replicate]
  rw [e, e2]
  simp only [seC, List.map_append, List.map_cons, List.map_nil]
  rw [List.set_append, if_neg (by simp)]
  rw [show 3 + k - [strv tx, Value.int .i64 a, Value.int .i64 b].length = k by simp]
  rw [List.set_append, if_neg (by simp; omega)]
  rw [show k - (List.map u8v (List.take k dg)).length = 0 by simp; omega]
  simp
theorem rread_fn (s : List UInt8) (hs : s.length ≤ 1000000000) (h : Heap) :
    Fx Tryz.prog 12 #[.string (bs s)] h fun u h' => ∃ av, u = .tuple #[av, .bool (Cd.readA s).isSome] ∧ RA h' av ((Cd.readA s).getD Cd.an0) ∧ ExtH h h' := by
  generalize hA : Cd.readA s = A
  refine fn_of 101 Tryz.func12 rfl (by kernel_rfl) rfl (by simp) ?_
  refine cw_seq (cw_go rfl ?_)
  conv => whnf
  intro h1 n1
  conv => whnf
  have y2 : Blk h1 h.size anZ 27 := n1.blk
  have z1 := n1.size
  refine cw_seq (cw_go rfl ?_)
  conv => whnf
  refine ⟨_, conv_bs s hs h1, ?_⟩
  rintro v3 h3 ⟨r3, x3, f3⟩
  obtain ⟨va, vc, hve, _⟩ := Vm.Src.form r3
  subst hve
  conv => whnf
  refine ⟨_, rfl, _, rnew_fn r3 hs, ?_⟩
  rintro _ h4 ⟨sv, rfl, o4, f4, x4⟩
  obtain ⟨ua, uc, hue, _⟩ := Vm.Src.form (OB.r o4)
  subst hue
  have g4 := own_lt o4
  have z3 := x3.size
  have z4 := x4.size
  conv => whnf
  intro h5 n5
  conv => whnf
  have z5 := n5.size
  have yb : Blk h5 h4.size (rrC (.slice none 0 0) 0 0 0) 78 := n5.blk
  refine ⟨_, _, yb, ⟨by show 4 ≤ 4; decide, rfl, by simp [rrC, Value.oneCell']⟩, ?_⟩
  intro h6 w6
  replace w6 := w6.cast (l' := rrC (.slice ua s.length uc) 0 0 0) (by rfl)
  have z6 := w6.size
  have x46 : ExtH h4 h6 := ⟨by omega, fun b hb => by rw [w6.block b (by omega), n5.block b hb]⟩
  have F6 : FR h h6 h4.size := ⟨x46.blk (x4.blk (x3.blk y2)), by omega, ((n1.ext.trans x3).trans x4).trans x46⟩
  have R6 : RRd h6 h4.size s (some 0) := ⟨_, 0, 0, 0, w6.new, RB.more (OB.r o4) x46, g4, rfl, Nat.zero_le _, rfl⟩
  generalize h4.size = p at *
  have zp : p < h6.size := R6.lt
  clear yb w6 n5 x46 y2 o4 f4 g4
  conv => whnf
  refine cw_seq (cw_seq (cw_go rfl ?_))
  conv => whnf
  refine ⟨_, rfl, _, rraw_fn R6 hs (n := 3) (by decide), ?_⟩
  rintro u h7 ⟨o7, R7, c7, f7⟩
  have F7 := F6.step c7 (fun x hx => Nat.le_of_eq hx.symm)
  have z7 := c7.size
  generalize hK0 : Cd.raw s 3 (some 0) = rw3 at o7 R7 ⊢
  obtain ⟨t, s0⟩ := rw3
  simp only at o7 R7 ⊢
  conv => whnf
  refine ⟨_, conv_str rfl rfl rfl (OB.r o7), ?_⟩
  rintro _ _ ⟨rfl, e0⟩
  replace e0 := e0.symm
  subst e0
  conv => whnf
  refine say_sne (b := [116, 65, 49]) (fun hne => ?_) (fun heq => ?_)
  · conv => whnf
    refine cw_true rfl ?_
    have hAn : A = none := by rw [← hA, Cd.readA_no hK0 hne]
    subst hAn
    refine cw_seq (cw_go rfl ?_)
    conv => whnf
    refine ⟨_, rfl, anZ.toArray, fun w => by kernel_rfl, ?_⟩
    conv => whnf
    conv => whnf
    refine ⟨_, _, F7.y2, ⟨by show 5 ≤ 5; decide, rfl, by simp [anZ, anC, strv, Value.oneCell']⟩, ?_⟩
    intro h51 w51
    conv => whnf
    have z51 := w51.size
    have zF := F7.ext.size
    refine cw_ret ?_
    conv => whnf
    refine ⟨anZ, rfl, w51.new.all, ?_⟩
    exact ⟨_, rfl, RA.zero _, ⟨by omega, fun b hb => by rw [w51.block b (by omega), F7.ext.block b hb]⟩⟩
  conv => whnf
  refine cw_false rfl (cw_skip ?_)
  refine cw_seq (cw_go rfl ?_)
  conv => whnf
  refine ⟨_, rfl, _, rcount_fn R7 hs (most := 2147483647) (by decide), ?_⟩
  rintro _ h8 ⟨rfl, R8, c8⟩
  have F8 := F7.step c8 (fun x hx => Nat.le_of_eq hx.symm)
  have z8 := c8.size
  generalize hK1 : Cd.count s 2147483647 s0 = rc at R8 ⊢
  obtain ⟨code, s1⟩ := rc
  simp only at R8 ⊢
  conv => whnf
  refine ⟨_, rfl, (anC (code : Int) nilS nilS [] nilS).toArray, fun w => by kernel_rfl, ?_⟩
  conv => whnf
  conv => whnf
  intro h9 n9
  conv => whnf
  have z9 := n9.size
  have yb : Blk h9 h8.size anZ 27 := n9.blk
  refine ⟨_, _, yb, ⟨by show 5 ≤ 5; decide, rfl, by simp [anC, strv, Value.oneCell']⟩, ?_⟩
  intro h10 w10
  have z10 := w10.size
  have x9 : ExtH h8 h10 := ⟨by omega, fun b hb => by rw [w10.block b (by omega), n9.block b hb]⟩
  have F10 := F8.more x9
  have R10 : RRd h10 p s s1 := R8.keep (x9.chg (S := fun _ => False)) (fun _ _ h => h)
  have y10 : Blk h10 h8.size (anC (code : Int) nilS nilS [] nilS) 27 := w10.new
  have hpd : p < h8.size := R8.lt
  generalize h8.size = d at *
  have zd : d < h10.size := y10.lt
  clear yb w10 n9 x9
  conv => whnf
  refine cw_seq (cw_go rfl ?_)
  conv => whnf
  refine ⟨_, rfl, _, rcount_fn R10 hs (most := 64) (by decide), ?_⟩
  rintro _ h11 ⟨rfl, R11, c11⟩
  have F11 := F10.step c11 (fun x hx => Nat.le_of_eq hx.symm)
  have y11 : Blk h11 d (anC (code : Int) nilS nilS [] nilS) 27 := blk_keep y10 c11 (by omega)
  have hn64 := Cd.count_le s 64 s1
  generalize hK2 : Cd.count s 64 s1 = rc at R11 hn64 ⊢
  obtain ⟨n, s2⟩ := rc
  simp only at R11 hn64 ⊢
  generalize hD : Cd.rdDiags s n s2 = D
  have hJ1 : DJ s D [] n s2 := by
    cases s2 with
    | none => exact (by rw [← hD]; exact Cd.rdDiags_none s n)
    | some a2 => exact ⟨by show 0 + n ≤ 64; omega, by rw [hD]; rfl, by rw [hD]⟩
  conv => whnf
  refine cw_cut (S := Value × List Cd.Dg × Cd.St) (fun x => [(2, .pointer (some ⟨h.size, 0, none⟩)), (4, .pointer (some ⟨p, 0, none⟩)), (5, .pointer (some ⟨d, 0, none⟩))])
    (fun x h' => (∃ a c, x.1 = .slice a x.2.1.length c) ∧ ODg h' x.1 x.2.1 ∧ (∀ y, ob x.1 y → d < y) ∧ RRd h' p s x.2.2 ∧ FR h h' p ∧ Blk h' d (anC (code : Int) x.1 nilS [] nilS) 27 ∧ (x.2.2 = none → D.2 = none) ∧ (∀ k, x.2.2 = some k → D = (x.2.1, some k))) ?_ ?_
  · refine cw_seq (cw_go rfl ?_)
    conv => whnf
    refine cw_block ?_
    refine cw_loop (S := Value × List Cd.Dg × Nat × Cd.St) (fun x => [(2, .pointer (some ⟨h.size, 0, none⟩)), (4, .pointer (some ⟨p, 0, none⟩)), (5, .pointer (some ⟨d, 0, none⟩)), (6, .int .i64 (n : Int)), (7, .int .i64 ((n - x.2.2.1 : Nat) : Int))])
      (fun x h' => (∃ a c, x.1 = .slice a x.2.1.length c) ∧ ODg h' x.1 x.2.1 ∧ (∀ y, ob x.1 y → d < y) ∧ RRd h' p s x.2.2.2 ∧ FR h h' p ∧ Blk h' d (anC (code : Int) x.1 nilS [] nilS) 27 ∧ x.2.2.1 ≤ n ∧ DJ s D x.2.1 x.2.2.1 x.2.2.2) (fun x => x.2.2.1)
      (nilS, [], n, s2) ⟨rfl, rfl, rfl, rfl, by simp only [Nat.sub_self]; rfl, trivial⟩ ⟨⟨none, 0, rfl⟩, OwnS.nil _ _ _, fun y hy => (ob_nil hy).elim, R11, F11, y11, Nat.le_refl _, hJ1⟩ ?_
    rintro ⟨dv, ds, m, st⟩ h12 ⟨⟨da, dc, hdv⟩, o12, f12, R12, F12, y12, hmn, J⟩
    simp only at hdv o12 f12 R12 y12 hmn J
    subst hdv
    have R12' := R12
    have zd12 := y12.lt
    refine cw_seq (cw_seq (cw_go rfl ?_))
    conv => whnf
    obtain ⟨sv, q, e, w, yr, rr, hsp, hst⟩ := R12
    refine say_d (fun hg => ?_) (fun hg => ?_)
    · have hm0 : 0 < m := by have hg' : ((n - m : Nat) : Int) < (n : Int) := hg; omega
      conv => whnf
      refine ⟨_, yr.rd (o := 2) rfl, ?_⟩
      conv => whnf
      cases st with
      | none =>
        refine say_f (by show ¬ e = 0; exact hst) ?_
        conv => whnf
        refine cw_false rfl (cw_exit ?_)
        exact ⟨(.slice da ds.length dc, ds, none), ⟨rfl, rfl, rfl, trivial⟩, ⟨_, _, rfl⟩, o12, f12, R12', F12, y12, fun _ => J, fun k hk => by cases hk⟩
      | some k12 =>
        obtain ⟨rfl, hk12, rfl⟩ := hst
        refine say_t (by show (0 : Int) = 0; rfl) ?_
        conv => whnf
        refine cw_true rfl (cw_skip ?_)
        obtain ⟨m, rfl⟩ : ∃ k, m = k + 1 := ⟨m - 1, by omega⟩
        obtain ⟨hlen, g1, g2⟩ := J
        rw [Cd.rdDiags_succ] at g1 g2
        clear yr rr
        refine cw_seq (cw_block ?_)
        refine cw_seq (cw_go rfl ?_)
        conv => whnf
        refine ⟨_, rfl, _, rtext_fn R12' hs (most := 4096) (by decide), ?_⟩
        rintro _ h13 ⟨rfl, R13, c13⟩
        have z13 := c13.size
        generalize Cd.text s 4096 (some k12) = tx at R13 g1 g2 ⊢
        obtain ⟨tx, s3⟩ := tx
        simp only at R13 g1 g2 ⊢
        conv => whnf
        refine ⟨_, rfl, (dgC ⟨tx, 0, 0⟩).toArray, fun w => by kernel_rfl, ?_⟩
        conv => whnf
        conv => whnf
        intro h14 n14
        conv => whnf
        have z14 := n14.size
        have yb : Blk h14 h13.size (dgC dg0) 50 := n14.blk
        refine ⟨_, _, yb, ⟨by show 3 ≤ 3; decide, rfl, dgC1 _⟩, ?_⟩
        intro h15 w15
        have z15 := w15.size
        have k15 : Blk h15 h13.size (dgC ⟨tx, 0, 0⟩) 50 := w15.new
        have x15 : ExtH h13 h15 := ⟨by omega, fun b hb => by rw [w15.block b (by omega), n14.block b hb]⟩
        have R15 : RRd h15 p s s3 := R13.keep (x15.chg (S := fun _ => False)) (fun _ _ h => h)
        have c15 : Own1 p h12 h15 := ⟨by omega, fun x hx hne => by rw [x15.block x (by omega), c13.block x hx hne]⟩
        have hd12 : d < h13.size := by omega
        have q13 : h12.size ≤ h13.size := c13.size
        generalize h13.size = e at *
        clear yb w15 n14
        conv => whnf
        refine cw_seq (cw_go rfl ?_)
        conv => whnf
        refine ⟨_, rfl, _, rcount_fn R15 hs (most := 2147483647) (by decide), ?_⟩
        rintro _ h16 ⟨rfl, R16, c16⟩
        have z16 := c16.size
        have k16 := blk_keep k15 c16 (show ¬ e = p by omega)
        change _ ++ (⟨tx, ((Cd.count s 2147483647 s3).1 : Int), ((Cd.count s 2147483647 (Cd.count s 2147483647 s3).2).1 : Int)⟩ :: (Cd.rdDiags s m (Cd.count s 2147483647 (Cd.count s 2147483647 s3).2).2).1) = _ at g1
        change (Cd.rdDiags s m (Cd.count s 2147483647 (Cd.count s 2147483647 s3).2).2).2 = _ at g2
        generalize Cd.count s 2147483647 s3 = cw at R16 g1 g2 ⊢
        obtain ⟨why, s4⟩ := cw
        simp only at R16 g1 g2 ⊢
        conv => whnf
        refine ⟨_, _, k16, by show 1 < 3; decide, ?_⟩
        intro h17 w17
        replace w17 := w17.cast (l' := dgC ⟨tx, (why : Int), 0⟩) (by rfl)
        have z17 := w17.size
        have R17 := R16.keep (w17.chg) (fun x hx e1 => by omega)
        conv => whnf
        refine cw_seq (cw_go rfl ?_)
        conv => whnf
        refine ⟨_, rfl, _, rcount_fn R17 hs (most := 2147483647) (by decide), ?_⟩
        rintro _ h18 ⟨rfl, R18, c18⟩
        have z18 := c18.size
        have k18 := blk_keep w17.new c18 (show ¬ e = p by omega)
        generalize Cd.count s 2147483647 s4 = cw at R18 g1 g2 ⊢
        obtain ⟨at_, s5⟩ := cw
        simp only at R18 g1 g2 ⊢
        conv => whnf
        refine ⟨_, _, k18, by show 2 < 3; decide, ?_⟩
        intro h19 w19
        replace w19 := w19.cast (l' := dgC (Cd.Dg.mk tx (why : Int) (at_ : Int))) (by rfl)
        have z19 := w19.size
        have R19 := R18.keep (w19.chg) (fun x hx e1 => by omega)
        have c19 : Chg (fun x => x = p ∨ x = e) h12 h19 := ⟨by omega, fun x hx hne => by
          have h1 : x ≠ p := fun e => hne (.inl e)
          have h2 : x ≠ e := fun e => hne (.inr e)
          rw [w19.block x h2, c18.block x (by omega) h1, w17.block x h2, c16.block x (by omega) h1, c15.block x hx h1]⟩
        have F19 := F12.step c19 (fun x hx => hx.elim (fun e1 => by omega) (fun e1 => by omega))
        have y19 := blk_keep y12 c19 (by omega)
        have l12 := own_lt o12
        have o19 : ODg h19 (.slice da ds.length dc) ds := OwnS.keep o12 c19 (fun x hx => by
          have := l12 x hx
          have := f12 x hx
          omega)
        conv => whnf
        refine cw_go rfl ?_
        conv => whnf
        refine ⟨_, y19.rd (o := 1) rfl, ?_⟩
        conv => whnf
        refine ⟨dgC (Cd.Dg.mk tx (why : Int) (at_ : Int)), rfl, w19.new.all, ?_⟩
        conv => whnf
        refine ⟨_, rfl, (dgC (Cd.Dg.mk tx (why : Int) (at_ : Int))).toArray, 50, fun w => by kernel_rfl, ?_⟩
        conv => whnf
        intro h20 n20
        have z20 := n20.size
        conv => whnf
        refine ⟨_, rfl, _, append_dg (ty := 23) (OwnS.more o19 n20.ext) (RDg.one n20) (by simp only [List.length_cons, List.length_nil]; omega), ?_⟩
        rintro u h21 ⟨o21, c21, f21⟩
        have z21 := c21.size
        obtain ⟨ua, uc, hue, _⟩ := Vm.Src.form (ODg.r o21)
        subst hue
        have c20 : Chg (fun x => d < x) h19 h21 := ⟨by omega, fun x hx hne => by
          rw [c21.block x (by omega) (fun h => by have := f12 x h; omega), n20.block x hx]⟩
        have F21 := F19.step c20 (fun x hx => by omega)
        have R21 := R19.keep c20 (fun x hx e1 => by omega)
        have y21 := blk_keep y19 c20 (by omega)
        conv => whnf
        refine ⟨_, _, y21, by show 1 < 5; decide, ?_⟩
        intro h22 w22
        replace w22 := w22.cast (l' := anC (code : Int) (.slice ua (ds ++ [(Cd.Dg.mk tx (why : Int) (at_ : Int))]).length uc) nilS [] nilS) (by rfl)
        have f21' : ∀ x, ob (.slice ua (ds ++ [(Cd.Dg.mk tx (why : Int) (at_ : Int))]).length uc) x → d < x := fun x hx => (f21 x hx).elim (f12 x) (fun e1 => by omega)
        have F22 := F21.step w22.chg (fun x hx => by omega)
        have R22 := R21.keep w22.chg (fun x hx e1 => by omega)
        have o22 := OwnS.keep o21 w22.chg (fun x hx e1 => by have := f21' x hx; omega)
        conv => whnf
        refine cw_go rfl ?_
        conv => whnf
        refine say_i (by omega) ?_
        conv => whnf
        refine ⟨(.slice ua (ds ++ [(Cd.Dg.mk tx (why : Int) (at_ : Int))]).length uc, ds ++ [(Cd.Dg.mk tx (why : Int) (at_ : Int))], m, s5), ⟨rfl, rfl, rfl, rfl, by simp only []; rw [show ((n - m : Nat) : Int) = ((n - (m + 1) : Nat) : Int) + 1 by omega]; rfl, trivial⟩, ⟨⟨_, _, rfl⟩, o22, f21', R22, F22, w22.new, by show m ≤ n; omega, ?_⟩, by show m < m + 1; omega⟩
        cases s5 with
        | none => exact (by show D.2 = none; rw [← g2]; exact Cd.rdDiags_none s m)
        | some a5 =>
          refine ⟨?_, ?_, g2⟩
          · show (ds ++ [_]).length + m ≤ 64
            simp only [List.length_append, List.length_cons, List.length_nil]; omega
          · rw [← g1]; simp
    · conv => whnf
      refine cw_false rfl (cw_exit ?_)
      have hm0 : m = 0 := by have hg' : ¬ ((n - m : Nat) : Int) < (n : Int) := hg; omega
      subst hm0
      refine ⟨(.slice da ds.length dc, ds, st), ⟨rfl, rfl, rfl, trivial⟩, ⟨_, _, rfl⟩, o12, f12, R12', F12, y12, fun hN => ?_, fun k hk => ?_⟩
      · have hN' : st = none := hN
        subst hN'; exact J
      · have hk' : st = some k := hk
        subst hk'
        obtain ⟨_, g1, g2⟩ := J
        exact Prod.ext (g1.symm.trans (List.append_nil ds)) g2.symm
  rintro ⟨dv, ds, st⟩ h12 ⟨⟨da, dc, hdv⟩, o12, f12, R12, F12, y12, hDN, hDS⟩
  simp only at hdv o12 f12 R12 y12 hDN hDS
  subst hdv
  clear R6 R7 R8 R10 R11 F6 F7 F8 F10 F11 y10 y11
  refine cw_seq (cw_go rfl ?_)
  conv => whnf
  refine ⟨_, rfl, _, rlist_fn R12 hs (most := 64) (each := 4096) (by decide) (by decide), ?_⟩
  rintro u h13 ⟨o13, R13, c13, f13⟩
  have hU0 := Cd.list_lens s 64 4096 st
  generalize hK4 : Cd.list s 64 4096 st = rc at o13 R13 hU0 ⊢
  obtain ⟨us, s4⟩ := rc
  simp only at o13 R13 hU0 ⊢
  have hU : ∀ x ∈ us, x.length ≤ 1000000000 := fun x hx => Nat.le_trans (hU0 x hx) hs
  obtain ⟨ua, uc, hue, _⟩ := Vm.Src.form (OT.r o13)
  subst hue
  have z12 := y12.lt
  have z13 := c13.size
  have y13 := blk_keep y12 c13 (show ¬ d = p by omega)
  have o12' : ODg h13 (.slice da ds.length dc) ds := OwnS.keep o12 c13 (fun x hx e1 => by have := f12 x hx; omega)
  have F13 := F12.step c13 (fun x hx => Nat.le_of_eq hx.symm)
  conv => whnf
  refine ⟨_, _, y13, by show 2 < 5; decide, ?_⟩
  intro h14 w14
  replace w14 := w14.cast (l' := anC (code : Int) (.slice da ds.length dc) (.slice ua us.length uc) [] nilS) (by rfl)
  have z14 := w14.size
  have R14 := R13.keep w14.chg (fun x hx e1 => by omega)
  have F14 := F13.step w14.chg (fun x hx => by omega)
  have od14 := OwnS.keep o12' w14.chg (fun x hx e1 => by have := f12 x hx; omega)
  have ou14 := OwnS.keep o13 w14.chg (fun x hx e1 => by have := f13 x hx; omega)
  conv => whnf
  refine cw_seq (cw_go rfl ?_)
  conv => whnf
  refine ⟨_, rfl, _, rtext_fn R14 hs (most := 2097152) (by decide), ?_⟩
  rintro _ h15 ⟨rfl, R15, c15⟩
  generalize hK5 : Cd.text s 2097152 s4 = rc at R15 ⊢
  obtain ⟨bv, s5⟩ := rc
  simp only at R15 ⊢
  have z15 := c15.size
  have y15 := blk_keep w14.new c15 (show ¬ d = p by omega)
  have od15 := OwnS.keep od14 c15 (fun x hx e1 => by have := f12 x hx; omega)
  have ou15 := OwnS.keep ou14 c15 (fun x hx e1 => by have := f13 x hx; omega)
  have F15 := F14.step c15 (fun x hx => Nat.le_of_eq hx.symm)
  conv => whnf
  refine ⟨_, _, y15, by show 3 < 5; decide, ?_⟩
  intro h16 w16
  replace w16 := w16.cast (l' := anC (code : Int) (.slice da ds.length dc) (.slice ua us.length uc) bv nilS) (by rfl)
  have z16 := w16.size
  have R16 := R15.keep w16.chg (fun x hx e1 => by omega)
  have F16 := F15.step w16.chg (fun x hx => by omega)
  have od16 := OwnS.keep od15 w16.chg (fun x hx e1 => by have := f12 x hx; omega)
  have ou16 := OwnS.keep ou15 w16.chg (fun x hx e1 => by have := f13 x hx; omega)
  conv => whnf
  refine cw_seq (cw_go rfl ?_)
  conv => whnf
  refine ⟨_, rfl, _, rcount_fn R16 hs (most := 65536) (by decide), ?_⟩
  rintro _ h17 ⟨rfl, R17, c17⟩
  have hm65 := Cd.count_le s 65536 s5
  generalize hK6 : Cd.count s 65536 s5 = rc at R17 hm65 ⊢
  obtain ⟨n2, s6⟩ := rc
  simp only at R17 hm65 ⊢
  have z17 := c17.size
  have y17 := blk_keep w16.new c17 (show ¬ d = p by omega)
  have od17 := OwnS.keep od16 c17 (fun x hx e1 => by have := f12 x hx; omega)
  have ou17 := OwnS.keep ou16 c17 (fun x hx e1 => by have := f13 x hx; omega)
  have F17 := F16.step c17 (fun x hx => Nat.le_of_eq hx.symm)
  have fD : ∀ x, ob (.slice da ds.length dc) x → d < x ∧ x < h17.size := fun x hx => ⟨f12 x hx, own_lt od17 x hx⟩
  have fU : ∀ x, ob (.slice ua us.length uc) x → d < x ∧ x < h17.size := fun x hx => ⟨by have := f13 x hx; omega, own_lt ou17 x hx⟩
  generalize hE : Cd.rdReads s n2 s6 = E
  have hJ0 : RJ s E [] n2 s6 := by
    cases s6 with
    | none => exact (by rw [← hE]; exact Cd.rdReads_none s n2)
    | some a6 => exact ⟨by show 0 + n2 ≤ 65536; omega, by rw [hE]; rfl, by rw [hE]⟩
  have hRA : A = if E.2 = some s.length ∧ Cd.may ⟨(code : Int), ds, us, bv, E.1⟩ = true then some ⟨(code : Int), ds, us, bv, E.1⟩ else none := by
    rw [← hA]
    cases st with
    | some k => exact Cd.readA_eq hK0 heq hK1 hK2 (hD.trans (hDS k rfl)) hK4 hK5 hK6 (show Cd.rdReads s n2 s6 = (E.1, E.2) from hE)
    | none =>
      rw [Cd.readA_lost hK0 heq hK1 hK2 (by rw [hD]; exact hDN rfl)]
      have e4 : s4 = none := congrArg Prod.snd hK4.symm
      subst e4
      have e5 : s5 = none := congrArg Prod.snd hK5.symm
      subst e5
      have e6 : s6 = none := congrArg Prod.snd hK6.symm
      subst e6
      rw [if_neg (fun h => by rw [show E.2 = none from hJ0] at h; cases h.1)]
  have zd17 := y17.lt
  clear R12 y12 o12 c13 R13 y13 o12' w14 R14 od14 ou14 c15 R15 y15 od15 ou15 w16 R16 od16 ou16 c17 F12 F13 F14 F15 F16
  conv => whnf
  refine cw_cut (S := Value × List Cd.Se × Cd.St) (fun x => [(2, .pointer (some ⟨h.size, 0, none⟩)), (4, .pointer (some ⟨p, 0, none⟩)), (5, .pointer (some ⟨d, 0, none⟩))])
    (fun x h' => (∃ a c, x.1 = .slice a x.2.1.length c) ∧ OSe h' x.1 x.2.1 ∧ (∀ y, ob x.1 y → h17.size ≤ y) ∧ ODg h' (.slice da ds.length dc) ds ∧ OT h' (.slice ua us.length uc) us ∧ RRd h' p s x.2.2 ∧ FR h h' p ∧ Blk h' d (anC (code : Int) (.slice da ds.length dc) (.slice ua us.length uc) bv x.1) 27 ∧ h17.size ≤ h'.size ∧ (x.2.2 = none → E.2 = none) ∧ (∀ k, x.2.2 = some k → E = (x.2.1, some k))) ?_ ?_
  · refine cw_seq (cw_go rfl ?_)
    conv => whnf
    refine cw_block ?_
    refine cw_loop (S := Value × List Cd.Se × Nat × Cd.St) (fun x => [(2, .pointer (some ⟨h.size, 0, none⟩)), (4, .pointer (some ⟨p, 0, none⟩)), (5, .pointer (some ⟨d, 0, none⟩)), (6, .int .i64 (n2 : Int)), (9, .int .i64 ((n2 - x.2.2.1 : Nat) : Int))])
      (fun x h' => (∃ a c, x.1 = .slice a x.2.1.length c) ∧ OSe h' x.1 x.2.1 ∧ (∀ y, ob x.1 y → h17.size ≤ y) ∧ ODg h' (.slice da ds.length dc) ds ∧ OT h' (.slice ua us.length uc) us ∧ RRd h' p s x.2.2.2 ∧ FR h h' p ∧ Blk h' d (anC (code : Int) (.slice da ds.length dc) (.slice ua us.length uc) bv x.1) 27 ∧ h17.size ≤ h'.size ∧ x.2.2.1 ≤ n2 ∧ RJ s E x.2.1 x.2.2.1 x.2.2.2) (fun x => x.2.2.1)
      (nilS, [], n2, s6) ⟨rfl, rfl, rfl, rfl, by simp only [Nat.sub_self]; rfl, trivial⟩ ⟨⟨none, 0, rfl⟩, ⟨OwnS.nil _ _ _, by simp⟩, fun y hy => (ob_nil hy).elim, od17, ou17, R17, F17, y17, Nat.le_refl _, Nat.le_refl _, hJ0⟩ ?_
    rintro ⟨rv, rs, m, st7⟩ h20 ⟨⟨ra, rc, hrv⟩, os20, fr20, od20, ou20, R20, F20, y20, zz20, hmn, J⟩
    simp only at hrv os20 fr20 R20 y20 hmn J
    subst hrv
    have R20' := R20
    have zd20 := y20.lt
    refine cw_seq (cw_seq (cw_go rfl ?_))
    conv => whnf
    obtain ⟨sv, q, e, w, yr, rr, hsp, hst⟩ := R20
    refine say_d (fun hg => ?_) (fun hg => ?_)
    · have hm0 : 0 < m := by have hg' : ((n2 - m : Nat) : Int) < (n2 : Int) := hg; omega
      conv => whnf
      refine ⟨_, yr.rd (o := 2) rfl, ?_⟩
      conv => whnf
      cases st7 with
      | none =>
        refine say_f (by show ¬ e = 0; exact hst) ?_
        conv => whnf
        refine cw_false rfl (cw_exit ?_)
        exact ⟨(.slice ra rs.length rc, rs, none), ⟨rfl, rfl, rfl, trivial⟩, ⟨_, _, rfl⟩, os20, fr20, od20, ou20, R20', F20, y20, zz20, fun _ => J, fun k hk => by cases hk⟩
      | some k7 =>
        obtain ⟨rfl, hk7, rfl⟩ := hst
        refine say_t (by show (0 : Int) = 0; rfl) ?_
        conv => whnf
        refine cw_true rfl (cw_skip ?_)
        obtain ⟨m, rfl⟩ : ∃ k, m = k + 1 := ⟨m - 1, by omega⟩
        obtain ⟨j1, j2, j3⟩ := J
        rw [Cd.rdReads_succ] at j2 j3
        clear yr rr
        refine cw_seq (cw_block ?_)
        refine cw_seq (cw_go rfl ?_)
        conv => whnf
        refine ⟨_, rfl, _, rtext_fn R20' hs (most := 4096) (by decide), ?_⟩
        rintro _ h22 ⟨rfl, R22, c22⟩
        generalize Cd.text s 4096 (some k7) = rx at R22 j2 j3 ⊢
        obtain ⟨tx, t1⟩ := rx
        simp only at R22 j2 j3 ⊢
        have z22 := c22.size
        conv => whnf
        refine ⟨_, rfl, (seC ⟨tx, 0, 0, List.replicate 32 0⟩).toArray, fun w => by kernel_rfl, ?_⟩
        conv => whnf
        conv => whnf
        intro h23 n23
        conv => whnf
        have z23 := n23.size
        have yb : Blk h23 h22.size (seC se0) 55 := n23.blk
        refine ⟨_, _, yb, ⟨by show 35 ≤ 35; decide, rfl, seC1 _⟩, ?_⟩
        intro h24 w24
        replace w24 := w24.cast (splice_all (by show (seC _).length = (seC _).length; rw [seC_len rfl, seC_len rfl]))
        have z24 := w24.size
        have k24 : Blk h24 h22.size (seC ⟨tx, 0, 0, List.replicate 32 0⟩) 55 := w24.new
        have x24 : ExtH h22 h24 := ⟨by omega, fun b hb => by rw [w24.block b (by omega), n23.block b hb]⟩
        have R24 := R22.keep (x24.chg (S := fun _ => False)) (fun _ _ h => h)
        have c24 : Own1 p h20 h24 := ⟨by omega, fun x hx hne => by rw [x24.block x (by omega), c22.block x hx hne]⟩
        have hd22 : d < h22.size := by omega
        have q22 : h20.size ≤ h22.size := z22
        generalize h22.size = g at *
        clear yb w24 n23 x24
        conv => whnf
        refine cw_seq (cw_go rfl ?_)
        conv => whnf
        refine ⟨_, rfl, _, rcount_fn R24 hs (most := 4) (by decide), ?_⟩
        rintro _ h25 ⟨rfl, R25, c25⟩
        generalize Cd.count s 4 t1 = rx at R25 j2 j3 ⊢
        obtain ⟨what, t2⟩ := rx
        simp only at R25 j2 j3 ⊢
        have z25 := c25.size
        have k25 := blk_keep k24 c25 (show ¬ g = p by omega)
        conv => whnf
        refine ⟨_, _, k25, by show 1 < 35; decide, ?_⟩
        intro h26 w26
        replace w26 := w26.cast (l' := seC ⟨tx, (what : Int), 0, List.replicate 32 0⟩) (by rfl)
        have z26 := w26.size
        have R26 := R25.keep w26.chg (fun x hx e1 => by omega)
        conv => whnf
        refine cw_seq (cw_go rfl ?_)
        conv => whnf
        refine ⟨_, rfl, _, rcount_fn R26 hs (most := 3) (by decide), ?_⟩
        rintro _ h27 ⟨rfl, R27, c27⟩
        generalize Cd.count s 3 t2 = rx at R27 j2 j3 ⊢
        obtain ⟨kind, t3⟩ := rx
        simp only at R27 j2 j3 ⊢
        have z27 := c27.size
        have k27 := blk_keep w26.new c27 (show ¬ g = p by omega)
        conv => whnf
        refine ⟨_, _, k27, by show 2 < 35; decide, ?_⟩
        intro h28 w28
        replace w28 := w28.cast (l' := seC ⟨tx, (what : Int), (kind : Int), List.replicate 32 0⟩) (by rfl)
        have z28 := w28.size
        have R28 := R27.keep w28.chg (fun x hx e1 => by omega)
        conv => whnf
        refine cw_seq (cw_go rfl ?_)
        conv => whnf
        refine ⟨_, rfl, _, rraw_fn R28 hs (n := 32) (by decide), ?_⟩
        rintro u h30 ⟨o30, R30, c30, f30⟩
        have z30 := c30.size
        have hr32 : (Cd.raw s 32 t3).1.length = 0 ∨ (Cd.raw s 32 t3).1.length = 32 := Cd.raw_len s 32 t3
        have hr0 : (Cd.raw s 32 t3).2 ≠ none → (Cd.raw s 32 t3).1.length = 32 := Cd.raw_some s 32 t3
        generalize Cd.raw s 32 t3 = rx at R30 o30 j2 j3 hr32 hr0 ⊢
        obtain ⟨dg, t4⟩ := rx
        simp only at R30 o30 j2 j3 hr32 hr0 ⊢
        obtain ⟨ga, gc, hge, _⟩ := Vm.Src.form (OB.r o30)
        subst hge
        have k30 : Blk h30 g (seC ⟨tx, (what : Int), (kind : Int), dg.take 0 ++ (List.replicate 32 (0 : UInt8)).drop 0⟩) 55 := blk_keep w28.new c30 (show ¬ g = p by omega)
        have c30' : Chg (fun x => x = p ∨ x = g) h20 h30 := ⟨by omega, fun x hx hne => by
          have h1 : x ≠ p := fun e => hne (.inl e)
          have h2 : x ≠ g := fun e => hne (.inr e)
          rw [c30.block x (by omega) h1, w28.block x h2, c27.block x (by omega) h1, w26.block x h2, c25.block x (by omega) h1, c24.block x hx h1]⟩
        clear c24 c25 w26 c27 w28 R22 R24 R25 R26 R27 R28 k24 k25 k27
        have zg30 := k30.lt
        conv => whnf
        refine cw_cut (S := Unit) (fun _ => [(2, .pointer (some ⟨h.size, 0, none⟩)), (4, .pointer (some ⟨p, 0, none⟩)), (5, .pointer (some ⟨d, 0, none⟩)), (6, .int .i64 (n2 : Int)), (9, .int .i64 ((n2 - (m + 1) : Nat) : Int)), (10, .pointer (some ⟨g, 0, none⟩))])
          (fun _ h' => Blk h' g (seC ⟨tx, (what : Int), (kind : Int), dg ++ (List.replicate 32 (0 : UInt8)).drop dg.length⟩) 55 ∧ Chg (fun x => x = g) h30 h') ?_ ?_
        · refine cw_seq (cw_go rfl ?_)
          conv => whnf
          refine cw_block ?_
          refine cw_loop (S := Nat) (fun k => [(2, .pointer (some ⟨h.size, 0, none⟩)), (4, .pointer (some ⟨p, 0, none⟩)), (5, .pointer (some ⟨d, 0, none⟩)), (6, .int .i64 (n2 : Int)), (9, .int .i64 ((n2 - (m + 1) : Nat) : Int)), (10, .pointer (some ⟨g, 0, none⟩)), (11, .slice ga dg.length gc), (12, .int .i64 (k : Int))])
            (fun k h' => k ≤ dg.length ∧ Blk h' g (seC ⟨tx, (what : Int), (kind : Int), dg.take k ++ (List.replicate 32 (0 : UInt8)).drop k⟩) 55 ∧ Chg (fun x => x = g) h30 h') (fun k => dg.length - k)
            0 ⟨rfl, rfl, rfl, rfl, rfl, rfl, rfl, rfl, trivial⟩ ⟨Nat.zero_le _, k30, ⟨Nat.le_refl _, fun _ _ _ => rfl⟩⟩ ?_
          rintro k h31 ⟨hk, k31, c31⟩
          have z31 := c31.size
          refine cw_seq (cw_seq (cw_go rfl ?_))
          conv => whnf
          refine say_d (fun hg2 => ?_) (fun hg2 => ?_)
          · refine cw_true rfl (cw_skip ?_)
            have hkl : k < dg.length := by omega
            obtain ⟨b, o, c, e1, hrd⟩ := RB.get (Vm.Src.keep (OB.r o30) c31 (fun x hx e1 => by have := f30 x hx; omega)) k hkl
            injection e1 with e1 _ _
            subst e1
            refine cw_seq (cw_block ?_)
            refine cw_go rfl ?_
            conv => whnf
            refine And.intro ⟨by omega, by omega⟩ ?_
            refine ⟨_, by exact hrd, ?_⟩
            conv => whnf
            refine And.intro ⟨by omega, by show (k : Int) < 32; omega⟩ ?_
            conv => whnf
            refine ⟨_, _, k31, by show 0 + 3 + (k : Int).toNat < (seC _).length; rw [seC_len (by simp; omega)]; omega, ?_⟩
            intro h32 w32
            replace w32 := w32.cast (l' := seC ⟨tx, (what : Int), (kind : Int), dg.take (k + 1) ++ (List.replicate 32 (0 : UInt8)).drop (k + 1)⟩) (by
              rw [← set_dig hkl (by omega)]
              show (seC _).set (0 + 3 + (k : Int).toNat) _ = (seC _).set (3 + k) _
              congr 1)
            conv => whnf
            refine cw_go rfl ?_
            conv => whnf
            refine say_i (by omega) ?_
            conv => whnf
            refine ⟨k + 1, ⟨rfl, rfl, rfl, rfl, rfl, rfl, rfl, by simp only []; rw [show ((k + 1 : Nat) : Int) = (k : Int) + 1 by push_cast; rfl]; rfl, trivial⟩, ⟨by omega, w32.new, ⟨by have := w32.size; omega, fun x hx hne => by rw [w32.block x hne, c31.block x hx hne]⟩⟩, by show dg.length - (k + 1) < dg.length - k; omega⟩
          · refine cw_false rfl (cw_exit ?_)
            have hkl : k = dg.length := by omega
            subst hkl
            rw [List.take_length] at k31
            exact ⟨(), ⟨rfl, rfl, rfl, rfl, rfl, rfl, trivial⟩, k31, c31⟩
        rintro _ h32 ⟨k32, c32⟩
        have z32 := c32.size
        have hL32 : (dg ++ (List.replicate 32 (0 : UInt8)).drop dg.length).length = 32 := by
          rw [List.length_append, List.length_drop, List.length_replicate]; omega
        generalize hX : (Cd.Se.mk tx (what : Int) (kind : Int) (dg ++ (List.replicate 32 (0 : UInt8)).drop dg.length)) = X
        have hXd : X.dig.length = 32 := by rw [← hX]; exact hL32
        have k32' : Blk h32 g (seC X) 55 := by rw [← hX]; exact k32
        have R32 := R30.keep c32 (fun x hx e1 => by omega)
        have c33 : Chg (fun x => x = p ∨ x = g) h20 h32 := ⟨by omega, fun x hx hne => by
          rw [c32.block x (by omega) (fun e => hne (.inr e)), c30'.block x hx hne]⟩
        have F32 := F20.step c33 (fun x hx => by omega)
        have y32 := blk_keep y20 c33 (by omega)
        have od32 := OwnS.keep od20 c33 (fun x hx e1 => by have := fD x hx; omega)
        have ou32 := OwnS.keep ou20 c33 (fun x hx e1 => by have := fU x hx; omega)
        have hos := own_lt os20.1
        have os32 : OSe h32 (.slice ra rs.length rc) rs := ⟨OwnS.keep os20.1 c33 (fun x hx e1 => by have := fr20 x hx; have := hos x hx; omega), os20.2⟩
        conv => whnf
        refine cw_go rfl ?_
        conv => whnf
        refine ⟨_, y32.rd (o := 4) rfl, ?_⟩
        conv => whnf
        refine ⟨seC X, seC_len hXd, k32'.all, ?_⟩
        conv => whnf
        refine ⟨_, rfl, (seC X).toArray, 55, fun wd => build_se hXd wd, ?_⟩
        intro h33 n33
        have z33 := n33.size
        conv => whnf
        refine ⟨_, rfl, _, append_se (ty := 25) (⟨OwnS.more os32.1 n33.ext, os32.2⟩ : OSe h33 _ _) (RSe.one hXd n33) (by simp only [List.length_cons, List.length_nil]; omega), ?_⟩
        rintro u h34 ⟨o34, c34, f34⟩
        have z34 := c34.size
        obtain ⟨wa, wc, hwe, _⟩ := Vm.Src.form (OSe.r o34).1
        subst hwe
        have c35 : Chg (fun x => h17.size ≤ x) h32 h34 := ⟨by omega, fun x hx hne => by
          rw [c34.block x (by omega) (fun h => by have := fr20 x h; omega), n33.block x hx]⟩
        have F34 := F32.step c35 (fun x hx => by omega)
        have R34 := R32.keep c35 (fun x hx e1 => by omega)
        have y34 := blk_keep y32 c35 (by omega)
        have od34 := OwnS.keep od32 c35 (fun x hx e1 => by have := fD x hx; omega)
        have ou34 := OwnS.keep ou32 c35 (fun x hx e1 => by have := fU x hx; omega)
        conv => whnf
        refine ⟨_, _, y34, by show 4 < 5; decide, ?_⟩
        intro h36 w36
        replace w36 := w36.cast (l' := anC (code : Int) (.slice da ds.length dc) (.slice ua us.length uc) bv (.slice wa (rs ++ [X]).length wc)) (by rfl)
        have z36 := w36.size
        have f34' : ∀ x, ob (.slice wa (rs ++ [X]).length wc) x → h17.size ≤ x := fun x hx => (f34 x hx).elim (fr20 x) (fun e1 => by omega)
        have F36 := F34.step w36.chg (fun x hx => by omega)
        have R36 := R34.keep w36.chg (fun x hx e1 => by omega)
        have od36 := OwnS.keep od34 w36.chg (fun x hx e1 => by have := fD x hx; omega)
        have ou36 := OwnS.keep ou34 w36.chg (fun x hx e1 => by have := fU x hx; omega)
        have os36 : OSe h36 (.slice wa (rs ++ [X]).length wc) (rs ++ [X]) := ⟨OwnS.keep o34.1 w36.chg (fun x hx e1 => by have := f34' x hx; omega), o34.2⟩
        conv => whnf
        refine cw_go rfl ?_
        conv => whnf
        refine say_i (by omega) ?_
        conv => whnf
        refine ⟨(.slice wa (rs ++ [X]).length wc, rs ++ [X], m, t4), ⟨rfl, rfl, rfl, rfl, by simp only []; rw [show ((n2 - m : Nat) : Int) = ((n2 - (m + 1) : Nat) : Int) + 1 by omega]; rfl, trivial⟩, ⟨⟨_, _, rfl⟩, os36, f34', od36, ou36, R36, F36, w36.new, by omega, by show m ≤ n2; omega, ?_⟩, by show m < m + 1; omega⟩
        cases t4 with
        | none =>
          show E.2 = none
          rw [← j3]; exact Cd.rdReads_none s m
        | some a4 =>
          have hd32 := hr0 (by simp)
          refine ⟨?_, ?_, j3⟩
          · show (rs ++ [X]).length + m ≤ 65536
            simp only [List.length_append, List.length_cons, List.length_nil]; omega
          · have hXe : X = ⟨tx, (what : Int), (kind : Int), dg⟩ := by
              rw [← hX, List.drop_eq_nil_of_le (by simp; omega), List.append_nil]
            rw [← j2, hXe]; simp
    · conv => whnf
      refine cw_false rfl (cw_exit ?_)
      have hm0 : m = 0 := by have hg' : ¬ ((n2 - m : Nat) : Int) < (n2 : Int) := hg; omega
      subst hm0
      refine ⟨(.slice ra rs.length rc, rs, st7), ⟨rfl, rfl, rfl, trivial⟩, ⟨_, _, rfl⟩, os20, fr20, od20, ou20, R20', F20, y20, zz20, fun hN => ?_, fun k hk => ?_⟩
      · have hN' : st7 = none := hN
        subst hN'; exact J
      · have hk' : st7 = some k := hk
        subst hk'
        obtain ⟨_, j2, j3⟩ := J
        exact Prod.ext (j2.symm.trans (List.append_nil rs)) j3.symm
  rintro ⟨rv, rs, fin⟩ h30 ⟨⟨ra, rc, hrv⟩, os30, fr30, od30, ou30, R30, F30, y30, zz30, hN, hG⟩
  simp only at hrv os30 fr30 R30 y30 hN hG
  subst hrv
  have hE2 : E.2 = some s.length → fin = some s.length := fun h => by
    cases hf : fin with
    | none => rw [hN hf] at h; cases h
    | some k => rw [hG k hf] at h; exact h
  have zd30 := y30.lt
  refine cw_seq (cw_go rfl ?_)
  conv => whnf
  refine ⟨_, rfl, _, rend_fn R30 hs, ?_⟩
  rintro u h40 ⟨e40, w40, rfl, hend, c40⟩
  have F40 := F30.step c40 (fun x hx => Nat.le_of_eq hx.symm)
  have z40 := c40.size
  have y40 := blk_keep y30 c40 (show ¬ d = p by omega)
  have od40 : ODg h40 (.slice da ds.length dc) ds := OwnS.keep od30 c40 (fun x hx e1 => by have := fD x hx; omega)
  have ou40 : OT h40 (.slice ua us.length uc) us := OwnS.keep ou30 c40 (fun x hx e1 => by have := fU x hx; omega)
  have os40 : OSe h40 (.slice ra rs.length rc) rs := ⟨OwnS.keep os30.1 c40 (fun x hx e1 => by have := fr30 x hx; omega), os30.2⟩
  conv => whnf
  refine cw_seq (cw_seq (cw_go rfl ?_))
  conv => whnf
  by_cases hfe : fin = some s.length
  case' neg =>
    refine say_t (fun h => hfe (hend.1 h)) ?_
    conv => whnf
    refine cw_true rfl ?_
    have hAn : A = none := by rw [hRA, if_neg (fun h => hfe (hE2 h.1))]
    subst hAn
    refine cw_seq (cw_go rfl ?_)
    conv => whnf
    refine ⟨_, rfl, anZ.toArray, fun w => by kernel_rfl, ?_⟩
    conv => whnf
    conv => whnf
    refine ⟨_, _, F40.y2, ⟨by show 5 ≤ 5; decide, rfl, by simp [anZ, anC, strv, Value.oneCell']⟩, ?_⟩
    intro h51 w51
    conv => whnf
    have z51 := w51.size
    have zF := F40.ext.size
    refine cw_ret ?_
    conv => whnf
    refine ⟨anZ, rfl, w51.new.all, ?_⟩
    exact ⟨_, rfl, RA.zero _, ⟨by omega, fun b hb => by rw [w51.block b (by omega), F40.ext.block b hb]⟩⟩
  refine say_f (fun h => h (hend.2 hfe)) ?_
  conv => whnf
  refine ⟨anC (code : Int) (.slice da ds.length dc) (.slice ua us.length uc) bv (.slice ra rs.length rc), rfl, y40.all, ?_⟩
  conv => whnf
  have hE1 := hG _ hfe
  rw [hE1] at hRA
  simp only at hRA
  refine ⟨_, rfl, _, rmay23_fn (RA.of (code := (code : Int)) (bv := bv) (ODg.r od40) (OT.r ou40) (OSe.r os40)) hU, ?_⟩
  rintro _ h41 ⟨rfl, x41⟩
  have F41 := F40.more x41
  have z41 := x41.size
  have y41 := x41.blk y40
  cases hm : Cd.may ⟨(code : Int), ds, us, bv, rs⟩ with
  | false =>
    conv => whnf
    refine cw_true rfl ?_
    have hAn : A = none := by rw [hRA, if_neg (fun h => by rw [hm] at h; cases h.2)]
    subst hAn
    refine cw_seq (cw_go rfl ?_)
    conv => whnf
    refine ⟨_, rfl, anZ.toArray, fun w => by kernel_rfl, ?_⟩
    conv => whnf
    conv => whnf
    refine ⟨_, _, F41.y2, ⟨by show 5 ≤ 5; decide, rfl, by simp [anZ, anC, strv, Value.oneCell']⟩, ?_⟩
    intro h51 w51
    conv => whnf
    have z51 := w51.size
    have zF := F41.ext.size
    refine cw_ret ?_
    conv => whnf
    refine ⟨anZ, rfl, w51.new.all, ?_⟩
    exact ⟨_, rfl, RA.zero _, ⟨by omega, fun b hb => by rw [w51.block b (by omega), F41.ext.block b hb]⟩⟩
  | true =>
    conv => whnf
    refine cw_false rfl (cw_skip ?_)
    have hAs : A = some ⟨(code : Int), ds, us, bv, rs⟩ := by rw [hRA, if_pos ⟨trivial, hm⟩]
    subst hAs
    refine cw_seq (cw_go rfl ?_)
    conv => whnf
    refine ⟨anC (code : Int) (.slice da ds.length dc) (.slice ua us.length uc) bv (.slice ra rs.length rc), rfl, y41.all, ?_⟩
    conv => whnf
    refine ⟨_, _, F41.y2, ⟨by show 5 ≤ 5; decide, rfl, by simp [anC, strv, Value.oneCell']⟩, ?_⟩
    intro h51 w51
    conv => whnf
    have z51 := w51.size
    have zF := F41.ext.size
    have o1 := F41.o1
    refine cw_ret ?_
    conv => whnf
    refine ⟨anC (code : Int) (.slice da ds.length dc) (.slice ua us.length uc) bv (.slice ra rs.length rc), rfl, w51.new.all, ?_⟩
    refine ⟨_, rfl, ?_, ⟨by omega, fun b hb => by rw [w51.block b (by omega), F41.ext.block b hb]⟩⟩
    refine RA.of (code := (code : Int)) (bv := bv) (ODg.r (OwnS.keep (OwnS.more od40 x41) w51.chg (fun x hx e1 => ?_))) (OT.r (OwnS.keep (OwnS.more ou40 x41) w51.chg (fun x hx e1 => ?_))) (OSe.r ⟨OwnS.keep (OwnS.more os40.1 x41) w51.chg (fun x hx e1 => ?_), os40.2⟩)
    · have := fD x hx; omega
    · have := fU x hx; omega
    · have := fr30 x hx; omega
end Go.Proofs.YtkdmpdbbcgdfkaaGreatDoor
