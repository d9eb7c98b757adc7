/-
  cold.Read: the walk.
-/
import Derived.Test.YtkdmpdbbcgdfkaaGreatDoorJ20
namespace Go.Proofs.YtkdmpdbbcgdfkaaGreatDoor
open Go Vm
set_option maxRecDepth 100000
set_option linter.unusedVariables false
set_option linter.unusedSimpArgs false
theorem extP_blk {K : Nat → Prop} {h h' : Heap} (e : ExtP K h h') {b : Nat} {l : List Value} {t : TypeId} (hb : Blk h b l t) (hK : K b) : Blk h' b l t := (e.block b hK hb.lt).trans hb
def anC (code : Int) (dv uv : Value) (bv : List UInt8) (rv : Value) : List Value := [.int .i64 code, dv, uv, strv bv, rv]
abbrev nilS : Value := .slice none 0 0
def anZ : List Value := anC 0 nilS nilS [] nilS
def Cd.an0 : Cd.An := ⟨0, [], [], [], []⟩
/-- what stays as it is while an answer is read: the results, the fault -/
structure FP (h0 h : Heap) (p b : Nat) : Prop where
  y2 : Blk h h0.size anZ 27
  y3 : Blk h (h0.size + 1) (fltC 0 0) 38
  y5 : Blk h b (fltC 230 0) 38
  o1 : h0.size + 1 < p
  o2 : p < b
  ext : ExtH h0 h
theorem FP.step {h0 h h' : Heap} {p b : Nat} (F : FP h0 h p b) {S : Nat → Prop} (c : Chg S h h') (hS : ∀ x, S x → x = p ∨ b < x) : FP h0 h' p b := by
  have o1 := F.o1
  have o2 := F.o2
  have z := F.ext.size
  refine ⟨blk_keep F.y2 c (fun h => by have := hS _ h; omega), blk_keep F.y3 c (fun h => by have := hS _ h; omega), blk_keep F.y5 c (fun h => by have := hS _ h; omega), o1, o2, ⟨Nat.le_trans z c.size, fun x hx => ?_⟩⟩
  rw [c.block x (by omega) (fun h => by have := hS _ h; omega), F.ext.block x hx]
theorem FP.more {h0 h h' : Heap} {p b : Nat} (F : FP h0 h p b) (e : ExtH h h') : FP h0 h' p b := F.step (e.chg (S := fun _ => False)) (fun _ h => h.elim)
theorem RA.of {h : Heap} {code : Int} {dv uv rv : Value} {bv : List UInt8} {ds : List Cd.Dg} {us : List (List UInt8)} {rs : List Cd.Se} (h1 : RDg h dv ds) (h2 : RT h uv us) (h3 : RSe h rv rs) : RA h (.agg (anC code dv uv bv rv).toArray) ⟨code, ds, us, bv, rs⟩ :=
  ⟨⟨dv, uv, rv, rfl, h1, h2, h3⟩⟩
theorem RA.zero (h : Heap) : RA h (.agg anZ.toArray) Cd.an0 :=
  RA.of (OwnS.src (OwnS.nil h 50 3)) (OT.nil h).r ⟨OwnS.src (OwnS.nil h 55 35), by simp [Cd.an0]⟩
theorem Cd.count_le (l : List UInt8) (most : Nat) (st : Cd.St) : (Cd.count l most st).1 ≤ most := by
  unfold Cd.count
  cases st with
  | none => simp
  | some p =>
    simp only
    split
    · rename_i h; exact h.2
    · simp
theorem Cd.rdDiags_succ (l : List UInt8) (n : Nat) (s : Cd.St) : Cd.rdDiags l (n + 1) s = (⟨(Cd.text l 4096 s).1, ((Cd.count l Cd.most (Cd.text l 4096 s).2).1 : Int), ((Cd.count l Cd.most (Cd.count l Cd.most (Cd.text l 4096 s).2).2).1 : Int)⟩ :: (Cd.rdDiags l n (Cd.count l Cd.most (Cd.count l Cd.most (Cd.text l 4096 s).2).2).2).1, (Cd.rdDiags l n (Cd.count l Cd.most (Cd.count l Cd.most (Cd.text l 4096 s).2).2).2).2) := rfl
theorem Cd.rdDiags_none (l : List UInt8) : ∀ n, (Cd.rdDiags l n none).2 = none
  | 0 => rfl
  | n + 1 => by rw [Cd.rdDiags_succ]; exact Cd.rdDiags_none l n
theorem Cd.rdReads_succ (l : List UInt8) (n : Nat) (s : Cd.St) : Cd.rdReads l (n + 1) s = (⟨(Cd.text l 4096 s).1, ((Cd.count l 4 (Cd.text l 4096 s).2).1 : Int), ((Cd.count l 3 (Cd.count l 4 (Cd.text l 4096 s).2).2).1 : Int), (Cd.raw l 32 (Cd.count l 3 (Cd.count l 4 (Cd.text l 4096 s).2).2).2).1⟩ :: (Cd.rdReads l n (Cd.raw l 32 (Cd.count l 3 (Cd.count l 4 (Cd.text l 4096 s).2).2).2).2).1, (Cd.rdReads l n (Cd.raw l 32 (Cd.count l 3 (Cd.count l 4 (Cd.text l 4096 s).2).2).2).2).2) := rfl
theorem Cd.rdReads_none (l : List UInt8) : ∀ n, (Cd.rdReads l n none).2 = none
  | 0 => rfl
  | n + 1 => by rw [Cd.rdReads_succ]; exact Cd.rdReads_none l n
/-- the reads so far: what comes of them in the end -/
def RJ (l : List UInt8) (E : List Cd.Se × Cd.St) (rs : List Cd.Se) (m : Nat) : Cd.St → Prop
  | none => E.2 = none
  | some a => rs.length + m ≤ 65536 ∧ rs ++ (Cd.rdReads l m (some a)).1 = E.1 ∧ (Cd.rdReads l m (some a)).2 = E.2
theorem Cd.raw_len (l : List UInt8) (n : Nat) (st : Cd.St) : (Cd.raw l n st).1.length = 0 ∨ (Cd.raw l n st).1.length = n := by
  unfold Cd.raw
  cases st with
  | none => simp
  | some p =>
    simp only
    split
    · right; simp; omega
    · simp
theorem Cd.raw_some (l : List UInt8) (n : Nat) (st : Cd.St) : (Cd.raw l n st).2 ≠ none → (Cd.raw l n st).1.length = n := by
  unfold Cd.raw
  cases st with
  | none => simp
  | some p =>
    simp only
    split
    · intro _; simp; omega
    · simp
theorem Cd.readA_no {l t : List UInt8} {s0 : Cd.St} (h0 : Cd.raw l 3 (some 0) = (t, s0)) (ht : t ≠ [116, 65, 49]) : Cd.readA l = none := by
  unfold Cd.readA
  rw [h0]
  simp only
  rw [if_pos ht]
theorem Cd.readA_eq {l t : List UInt8} {s0 s1 s2 s3 s4 s5 s6 s7 : Cd.St} {code n m : Nat} {ds : List Cd.Dg} {us : List (List UInt8)} {bv : List UInt8} {rs : List Cd.Se} (h0 : Cd.raw l 3 (some 0) = (t, s0)) (ht : t = [116, 65, 49])
    (h1 : Cd.count l Cd.most s0 = (code, s1)) (h2 : Cd.count l 64 s1 = (n, s2)) (h3 : Cd.rdDiags l n s2 = (ds, s3)) (h4 : Cd.list l 64 4096 s3 = (us, s4)) (h5 : Cd.text l 2097152 s4 = (bv, s5)) (h6 : Cd.count l 65536 s5 = (m, s6)) (h7 : Cd.rdReads l m s6 = (rs, s7)) :
    Cd.readA l = if s7 = some l.length ∧ Cd.may ⟨code, ds, us, bv, rs⟩ = true then some ⟨code, ds, us, bv, rs⟩ else none := by
  unfold Cd.readA
  rw [h0]
  simp only
  rw [if_neg (fun h => h ht), h1]
  simp only
  rw [h2]
  simp only
  rw [h3]
  simp only
  rw [h4]
  simp only
  rw [h5]
  simp only
  rw [h6]
  simp only
  rw [h7]
theorem read_fn (s : List UInt8) (hs : s.length ≤ 1000000000) (h : Heap) :
    Fx Tryz.prog 11 #[.string (bs s)] h fun u h' => ∃ av, u = .tuple #[av, .agg (fltC (if (Cd.readA s).isSome then 0 else 230) 0).toArray] ∧ RA h' av ((Cd.readA s).getD Cd.an0) ∧ ExtH h h' := by
  generalize hA : Cd.readA s = A
  refine fn_of 96 Tryz.func11 rfl (by kernel_rfl) rfl (by simp) ?_
  refine cw_seq (cw_go rfl ?_)
  conv => whnf
  intro h1 n1
  conv => whnf
  have y2 : Blk h1 h.size anZ 27 := n1.blk
  intro h2 n2
  conv => whnf
  have z1 := n1.size
  have z2 := n2.size
  have y3 : Blk h2 (h.size + 1) (fltC 0 0) 38 := by have := n2.blk; rwa [z1] at this
  replace y2 := n2.ext.blk y2
  refine cw_seq (cw_go rfl ?_)
  conv => whnf
  refine ⟨_, conv_bs s hs h2, ?_⟩
  rintro v3 h3 ⟨r3, x3, f3⟩
  obtain ⟨va, vc, hve, _⟩ := Vm.Src.form r3
  subst hve
  conv => whnf
  refine ⟨_, rfl, _, newReader_fn r3 hs, ?_⟩
  rintro _ h4 ⟨p, rfl, hp, R4, x4⟩
  have z3 := x3.size
  have z4 := x4.size
  conv => whnf
  refine cw_seq (cw_go rfl ?_)
  conv => whnf
  refine ⟨_, rfl, (fltC 230 0).toArray, fun w => by kernel_rfl, ?_⟩
  conv => whnf
  conv => whnf
  intro h5 n5
  conv => whnf
  have z5 := n5.size
  have yb : Blk h5 h4.size (fltC 0 0) 38 := n5.blk
  refine ⟨_, _, yb, ⟨by show 2 ≤ 2; decide, rfl, by simp [fltC, Value.oneCell']⟩, ?_⟩
  intro h6 w6
  have z6 := w6.size
  have hp4 := R4.lt
  have x56 : ExtH h4 h6 := ⟨by omega, fun b hb => by rw [w6.block b (by omega), n5.block b hb]⟩
  have F6 : FP h h6 p h4.size := ⟨x56.blk (x4.blk (x3.blk y2)), x56.blk (x4.blk (x3.blk y3)), w6.new, by omega, hp4, (((n1.ext.trans n2.ext).trans x3).trans x4).trans x56⟩
  have R6 : RdAt h6 p s (some 0) := R4.keep (x56.chg (S := fun _ => False)) (fun _ _ h => h)
  generalize h4.size = b at *
  have zb : b < h6.size := F6.y5.lt
  clear yb w6 n5 x56 y2 y3
  conv => whnf
  refine cw_seq (cw_seq (cw_go rfl ?_))
  conv => whnf
  refine ⟨_, rfl, _, raw_fn R6 hs (n := 3) (by decide), ?_⟩
  rintro u h7 ⟨o7, R7, c7, f7⟩
  have F7 := F6.step c7 (fun x hx => .inl hx)
  have z7 := c7.size
  generalize hK0 : Cd.raw s 3 (some 0) = rw3 at o7 R7 ⊢
  obtain ⟨t, s0⟩ := rw3
  simp only at o7 R7 ⊢
  conv => whnf
  refine ⟨_, conv_str rfl rfl rfl (OB.r o7), ?_⟩
  rintro _ _ ⟨rfl, e0⟩
  replace e0 := e0.symm
  subst e0
  conv => whnf
  refine say_sne (b := [116, 65, 49]) (fun hne => ?_) (fun heq => ?_)
  · conv => whnf
    refine cw_true rfl ?_
    rw [Cd.readA_no hK0 hne] at hA
    subst hA
    refine cw_seq (cw_keeps (by kernel_rfl) 3 (fun b => b ≠ h.size) (.q 0 (.q 1 (.i1 2 .leaf))) (by kernel_rfl) rfl ?_)
    conv => whnf
    refine ⟨.agg anZ.toArray, fun h' e => ⟨_, rfl, anZ.toArray, fun w => by kernel_rfl, rfl⟩, ?_⟩
    conv => whnf
    refine ⟨.agg (fltC 230 0).toArray, fun h' e => ⟨fltC 230 0, rfl, (extP_blk e F7.y5 (show b ≠ h.size by have := F7.o1; have := F7.o2; omega)).all, rfl⟩, ?_⟩
    conv => whnf
    intro h20 x20
    conv => whnf
    have F20 := F7.more x20
    refine ⟨_, _, F20.y2, ⟨by show 5 ≤ 5; decide, rfl, by simp [anZ, anC, strv, Value.oneCell']⟩, ?_⟩
    intro h21 w21
    conv => whnf
    have z20 := x20.size
    have z21 := w21.size
    refine ⟨⟨by omega, fun b hb hlt => w21.block b hb⟩, ?_⟩
    intro h22a x22a
    conv => whnf
    intro h22 x22b
    conv => whnf
    have x22 := x22a.trans x22b
    have z22 := x22.size
    have y3' := x22.blk (w21.blk F20.y3 (by omega))
    rw [← z1] at y3'
    refine ⟨_, _, y3', ⟨by show 2 ≤ 2; decide, rfl, by simp [fltC, Value.oneCell']⟩, ?_⟩
    intro h23 w23
    have z23 := w23.size
    have zF := F7.ext.size
    refine cw_ret ?_
    conv => whnf
    refine ⟨anZ, rfl, (w23.blk (x22.blk w21.new) (by omega)).all, ?_⟩
    conv => whnf
    refine ⟨fltC 230 0, rfl, w23.new.all, ?_⟩
    exact ⟨_, rfl, RA.zero _, ⟨by omega, fun b hb => by rw [w23.block b (by omega), x22.block b (by omega), w21.block b (by omega), x20.block b (by omega), F7.ext.block b hb]⟩⟩
  · conv => whnf
    refine cw_false rfl (cw_skip ?_)
    refine cw_seq (cw_go rfl ?_)
    conv => whnf
    refine ⟨_, rfl, _, count_fn R7 hs (most := 2147483647) (by decide), ?_⟩
    rintro _ h8 ⟨rfl, R8, c8⟩
    have F8 := F7.step c8 (fun x hx => .inl hx)
    have z8 := c8.size
    generalize hK1 : Cd.count s 2147483647 s0 = rc at R8 ⊢
    obtain ⟨code, s1⟩ := rc
    simp only at R8 ⊢
    conv => whnf
    refine ⟨_, rfl, (anC (code : Int) nilS nilS [] nilS).toArray, fun w => by kernel_rfl, ?_⟩
    conv => whnf
    conv => whnf
    intro h9 n9
    conv => whnf
    have z9 := n9.size
    have yb : Blk h9 h8.size anZ 27 := n9.blk
    refine ⟨_, _, yb, ⟨by show 5 ≤ 5; decide, rfl, by simp [anC, strv, Value.oneCell']⟩, ?_⟩
    intro h10 w10
    have z10 := w10.size
    have x9 : ExtH h8 h10 := ⟨by omega, fun b hb => by rw [w10.block b (by omega), n9.block b hb]⟩
    have F10 := F8.more x9
    have R10 : RdAt h10 p s s1 := R8.keep (x9.chg (S := fun _ => False)) (fun _ _ h => h)
    have y10 : Blk h10 h8.size (anC (code : Int) nilS nilS [] nilS) 27 := w10.new
    have hb8 : b < h8.size := F8.y5.lt
    generalize h8.size = d at *
    have zd : d < h10.size := y10.lt
    clear yb w10 n9 x9
    conv => whnf
    refine cw_seq (cw_seq (cw_go rfl ?_))
    conv => whnf
    refine ⟨_, rfl, _, count_fn R10 hs (most := 64) (by decide), ?_⟩
    rintro _ h11 ⟨rfl, R11, c11⟩
    have F11 := F10.step c11 (fun x hx => .inl hx)
    have hpb := F10.o2
    have y11 : Blk h11 d (anC (code : Int) nilS nilS [] nilS) 27 := blk_keep y10 c11 (by omega)
    have hn64 := Cd.count_le s 64 s1
    generalize hK2 : Cd.count s 64 s1 = rc at R11 hn64 ⊢
    obtain ⟨n, s2⟩ := rc
    simp only at R11 hn64 ⊢
    generalize hD : Cd.rdDiags s n s2 = D
    conv => whnf
    refine cw_block ?_
    refine cw_loop (S := Value × List Cd.Dg × Nat × Cd.St) (fun x => [(2, .pointer (some ⟨h.size, 0, none⟩)), (3, .pointer (some ⟨h1.size, 0, none⟩)), (4, .pointer (some ⟨p, 0, none⟩)), (5, .pointer (some ⟨b, 0, none⟩)), (6, .pointer (some ⟨d, 0, none⟩)), (7, .int .i64 (x.2.2.1 : Int))])
      (fun x h' => (∃ a c, x.1 = .slice a x.2.1.length c) ∧ ODg h' x.1 x.2.1 ∧ (∀ y, ob x.1 y → d < y) ∧ RdAt h' p s x.2.2.2 ∧ FP h h' p b ∧ Blk h' d (anC (code : Int) x.1 nilS [] nilS) 27 ∧ x.2.1 ++ (Cd.rdDiags s x.2.2.1 x.2.2.2).1 = D.1 ∧ (Cd.rdDiags s x.2.2.1 x.2.2.2).2 = D.2 ∧ x.2.1.length + x.2.2.1 ≤ 64) (fun x => x.2.2.1)
      (nilS, [], n, s2) ⟨rfl, rfl, rfl, rfl, rfl, rfl, trivial⟩ ⟨⟨none, 0, rfl⟩, OwnS.nil _ _ _, fun y hy => (ob_nil hy).elim, R11, F11, y11, by rw [hD]; rfl, by rw [hD], by show 0 + n ≤ 64; omega⟩ ?_
    rintro ⟨dv, ds, m, st⟩ h12 ⟨⟨da, dc, hdv⟩, o12, f12, R12, F12, y12, g1, g2, hlen⟩
    simp only at hdv o12 f12 R12 y12 g1 g2 hlen
    subst hdv
    refine cw_seq (cw_seq (cw_go rfl ?_))
    conv => whnf
    cases m with
    | zero =>
      refine say_f (by show ¬ ((0 : Nat) : Int) > 0; omega) ?_
      refine cw_false rfl (cw_exit ?_)
      have hDe : D = (ds, st) := by
        simp only [Cd.rdDiags, List.append_nil] at g1 g2
        exact Prod.ext g1.symm g2.symm
      rw [hDe] at hD
      clear g1 g2 hDe
      refine cw_seq (cw_go rfl ?_)
      conv => whnf
      refine ⟨_, rfl, _, list_fn R12 hs (most := 64) (each := 4096) (by decide) (by decide), ?_⟩
      rintro u h13 ⟨o13, R13, c13, f13⟩
      have hU0 := Cd.list_lens s 64 4096 st
      generalize hK4 : Cd.list s 64 4096 st = rc at o13 R13 hU0 ⊢
      obtain ⟨us, s4⟩ := rc
      simp only at o13 R13 hU0 ⊢
      have hU : ∀ x ∈ us, x.length ≤ 1000000000 := fun x hx => Nat.le_trans (hU0 x hx) hs
      obtain ⟨ua, uc, hue, _⟩ := Vm.Src.form (OT.r o13)
      subst hue
      have z12 := y12.lt
      have z13 := c13.size
      have y13 := blk_keep y12 c13 (show ¬ d = p by omega)
      have o12' : ODg h13 (.slice da ds.length dc) ds := OwnS.keep o12 c13 (fun x hx e1 => by have := f12 x hx; omega)
      have F13 := F12.step c13 (fun x hx => .inl hx)
      conv => whnf
      refine ⟨_, _, y13, by show 2 < 5; decide, ?_⟩
      intro h14 w14
      replace w14 := w14.cast (l' := anC (code : Int) (.slice da ds.length dc) (.slice ua us.length uc) [] nilS) (by rfl)
      have z14 := w14.size
      have R14 := R13.keep w14.chg (fun x hx e1 => by omega)
      have F14 := F13.step w14.chg (fun x hx => .inr (by omega))
      have od14 := OwnS.keep o12' w14.chg (fun x hx e1 => by have := f12 x hx; omega)
      have ou14 := OwnS.keep o13 w14.chg (fun x hx e1 => by have := f13 x hx; omega)
      conv => whnf
      refine cw_seq (cw_go rfl ?_)
      conv => whnf
      refine ⟨_, rfl, _, text_fn R14 hs (most := 2097152) (by decide), ?_⟩
      rintro _ h15 ⟨rfl, R15, c15⟩
      generalize hK5 : Cd.text s 2097152 s4 = rc at R15 ⊢
      obtain ⟨bv, s5⟩ := rc
      simp only at R15 ⊢
      have z15 := c15.size
      have y15 := blk_keep w14.new c15 (show ¬ d = p by omega)
      have od15 := OwnS.keep od14 c15 (fun x hx e1 => by have := f12 x hx; omega)
      have ou15 := OwnS.keep ou14 c15 (fun x hx e1 => by have := f13 x hx; omega)
      have F15 := F14.step c15 (fun x hx => .inl hx)
      conv => whnf
      refine ⟨_, _, y15, by show 3 < 5; decide, ?_⟩
      intro h16 w16
      replace w16 := w16.cast (l' := anC (code : Int) (.slice da ds.length dc) (.slice ua us.length uc) bv nilS) (by rfl)
      have z16 := w16.size
      have R16 := R15.keep w16.chg (fun x hx e1 => by omega)
      have F16 := F15.step w16.chg (fun x hx => .inr (by omega))
      have od16 := OwnS.keep od15 w16.chg (fun x hx e1 => by have := f12 x hx; omega)
      have ou16 := OwnS.keep ou15 w16.chg (fun x hx e1 => by have := f13 x hx; omega)
      conv => whnf
      refine cw_seq (cw_seq (cw_go rfl ?_))
      conv => whnf
      refine ⟨_, rfl, _, count_fn R16 hs (most := 65536) (by decide), ?_⟩
      rintro _ h17 ⟨rfl, R17, c17⟩
      have hm65 := Cd.count_le s 65536 s5
      generalize hK6 : Cd.count s 65536 s5 = rc at R17 hm65 ⊢
      obtain ⟨n2, s6⟩ := rc
      simp only at R17 hm65 ⊢
      have z17 := c17.size
      have y17 := blk_keep w16.new c17 (show ¬ d = p by omega)
      have od17 := OwnS.keep od16 c17 (fun x hx e1 => by have := f12 x hx; omega)
      have ou17 := OwnS.keep ou16 c17 (fun x hx e1 => by have := f13 x hx; omega)
      have F17 := F16.step c17 (fun x hx => .inl hx)
      have fD : ∀ x, ob (.slice da ds.length dc) x → d < x ∧ x < h17.size := fun x hx => ⟨f12 x hx, by
        rcases od17.2 with ⟨hv, _⟩ | ⟨g, cap, tl, hv, hg, _⟩
        · rw [hv] at hx; exact (ob_nil hx).elim
        · rw [hv, ob_slice] at hx; subst hx; exact hg.lt⟩
      have fU : ∀ x, ob (.slice ua us.length uc) x → d < x ∧ x < h17.size := fun x hx => ⟨by have := f13 x hx; omega, by
        rcases ou17.2 with ⟨hv, _⟩ | ⟨g, cap, tl, hv, hg, _⟩
        · rw [hv] at hx; exact (ob_nil hx).elim
        · rw [hv, ob_slice] at hx; subst hx; exact hg.lt⟩
      generalize hE : Cd.rdReads s n2 s6 = E
      have hJ0 : RJ s E [] n2 s6 := by
        cases s6 with
        | none => exact (by rw [← hE]; exact Cd.rdReads_none s n2)
        | some a6 => exact ⟨by show 0 + n2 ≤ 65536; omega, by rw [hE]; rfl, by rw [hE]⟩
      have zd17 := y17.lt
      clear R7 c7 o7 R10 y10 c11 R11 y11 R12 y12 o12 c13 R13 y13 o12' w14 R14 od14 ou14 c15 R15 y15 od15 ou15 w16 R16 od16 ou16 c17 F6 F7 F8 F10 F11 F12 F13 F14 F15 F16
      conv => whnf
      refine cw_block ?_
      refine cw_loop (S := Value × List Cd.Se × Nat × Cd.St) (fun x => [(2, .pointer (some ⟨h.size, 0, none⟩)), (3, .pointer (some ⟨h1.size, 0, none⟩)), (4, .pointer (some ⟨p, 0, none⟩)), (5, .pointer (some ⟨b, 0, none⟩)), (6, .pointer (some ⟨d, 0, none⟩)), (9, .int .i64 (x.2.2.1 : Int))])
        (fun x h' => (∃ a c, x.1 = .slice a x.2.1.length c) ∧ OSe h' x.1 x.2.1 ∧ (∀ y, ob x.1 y → h17.size ≤ y) ∧ ODg h' (.slice da ds.length dc) ds ∧ OT h' (.slice ua us.length uc) us ∧ RdAt h' p s x.2.2.2 ∧ FP h h' p b ∧ Blk h' d (anC (code : Int) (.slice da ds.length dc) (.slice ua us.length uc) bv x.1) 27 ∧ h17.size ≤ h'.size ∧ RJ s E x.2.1 x.2.2.1 x.2.2.2) (fun x => x.2.2.1)
        (nilS, [], n2, s6) ⟨rfl, rfl, rfl, rfl, rfl, rfl, trivial⟩ ⟨⟨none, 0, rfl⟩, ⟨OwnS.nil _ _ _, by simp⟩, fun y hy => (ob_nil hy).elim, od17, ou17, R17, F17, y17, Nat.le_refl _, hJ0⟩ ?_
      rintro ⟨rv, rs, m, st7⟩ h20 ⟨⟨ra, rc, hrv⟩, or20, fr20, od20, ou20, R20, F20, y20, zz20, J⟩
      simp only at hrv or20 fr20 R20 y20 J
      subst hrv
      have R20' := R20
      have hpd : p < b := F20.o2
      have zd20 := y20.lt
      refine cw_seq (cw_seq (cw_go rfl ?_))
      conv => whnf
      obtain ⟨sv, q, e, a, yr, rr, hsp, he, ha, hst⟩ := R20
      -- what is behind the loop
      have done : ∀ (h' : Heap), ExtH h20 h' → ∃ fin : Cd.St, RdAt h' p s fin ∧ ODg h' (.slice da ds.length dc) ds ∧ OT h' (.slice ua us.length uc) us ∧ OSe h' (.slice ra rs.length rc) rs ∧ FP h h' p b ∧ Blk h' d (anC (code : Int) (.slice da ds.length dc) (.slice ua us.length uc) bv (.slice ra rs.length rc)) 27 ∧ fin = st7 := fun h' x => ⟨st7, R20'.keep (x.chg (S := fun _ => False)) (fun _ _ h => h), OwnS.more od20 x, OwnS.more ou20 x, ⟨OwnS.more or20.1 x, or20.2⟩, F20.more x, x.blk y20, rfl⟩
      refine say_d (fun hg => ?_) (fun hg => ?_)
      · have hm0 : 0 < m := by have hg' : (m : Int) > 0 := hg; omega
        conv => whnf
        refine ⟨_, rfl, _, fault_fn yr, ?_⟩
        rintro _ h21 ⟨rfl, x21⟩
        conv => whnf
        refine ⟨_, rfl, (fltC 0 0).toArray, fun w => by kernel_rfl, ?_⟩
        conv => whnf
        conv => whnf
        refine ⟨_, fun w => flt_eq he ha (by decide) (by decide) _ _ w, ?_⟩
        cases st7 with
        | none =>
          rw [decide_eq_false (fun h => hst h.1)]
          conv => whnf
          refine cw_false rfl (cw_exit ?_)
          obtain ⟨fin, R30, od30, ou30, os30, F30, y30, hfin⟩ := done h21 x21
          have hG : ∀ k, fin = some k → E = (rs, some k) := fun k hk => by rw [hfin] at hk; cases hk
          have hN : fin = none → E.2 = none := fun _ => J
          have zz30 : h17.size ≤ h21.size := by have := x21.size; omega
          clear done hfin
          have hE2 : E.2 = some s.length → fin = some s.length := fun h => by
            cases hf : fin with
            | none => rw [hN hf] at h; cases h
            | some k => rw [hG k hf] at h; exact h
          have hRA := Cd.readA_eq hK0 heq hK1 hK2 hD hK4 hK5 hK6 (show Cd.rdReads s n2 s6 = (E.1, E.2) from hE)
          rw [hA] at hRA
          have hpb30 := F30.o2
          have zd30 := y30.lt
          refine cw_seq (cw_seq (cw_go rfl ?_))
          conv => whnf
          refine ⟨_, rfl, _, end_fn R30 hs, ?_⟩
          rintro u h40 ⟨e40, a40, rfl, he40, ha40, hend, c40⟩
          have F40 := F30.step c40 (fun x hx => .inl hx)
          have z40 := c40.size
          have y40 := blk_keep y30 c40 (show ¬ d = p by omega)
          have od40 : ODg h40 (.slice da ds.length dc) ds := OwnS.keep od30 c40 (fun x hx e1 => by have := fD x hx; omega)
          have ou40 : OT h40 (.slice ua us.length uc) us := OwnS.keep ou30 c40 (fun x hx e1 => by have := fU x hx; omega)
          have os40 : OSe h40 (.slice ra rs.length rc) rs := ⟨OwnS.keep os30.1 c40 (fun x hx e1 => by have := fr20 x hx; omega), os30.2⟩
          conv => whnf
          refine ⟨_, rfl, (fltC 0 0).toArray, fun w => by kernel_rfl, ?_⟩
          conv => whnf
          conv => whnf
          refine ⟨_, fun w => flt_neq he40 ha40 (by decide) (by decide) _ _ w, ?_⟩
          by_cases hfe : fin = some s.length
          case' neg =>
            rw [decide_eq_false (fun h => hfe (hend.1 h))]
            conv => whnf
            refine cw_true rfl ?_
            have hAn : A = none := by rw [hRA, if_neg (fun h => hfe (hE2 h.1))]
            subst hAn
            refine cw_seq (cw_keeps (by kernel_rfl) 3 (fun b => b ≠ h.size) (.q 0 (.q 1 (.i1 2 .leaf))) (by kernel_rfl) rfl ?_)
            conv => whnf
            refine ⟨.agg anZ.toArray, fun h' e => ⟨_, rfl, anZ.toArray, fun w => by kernel_rfl, rfl⟩, ?_⟩
            conv => whnf
            refine ⟨.agg (fltC 230 0).toArray, fun h' e => ⟨fltC 230 0, rfl, (extP_blk e F40.y5 (show b ≠ h.size by have := F40.o1; have := F40.o2; omega)).all, rfl⟩, ?_⟩
            conv => whnf
            intro h50 x50
            conv => whnf
            have F50 := F40.more x50
            refine ⟨_, _, F50.y2, ⟨by show 5 ≤ 5; decide, rfl, by simp [anZ, anC, strv, Value.oneCell']⟩, ?_⟩
            intro h51 w51
            conv => whnf
            have z50 := x50.size
            have z51 := w51.size
            refine ⟨⟨by omega, fun b hb hlt => w51.block b hb⟩, ?_⟩
            intro h52a x52a
            conv => whnf
            intro h52 x52b
            conv => whnf
            have x52 := x52a.trans x52b
            have z52 := x52.size
            have y3' := x52.blk (w51.blk F50.y3 (by omega))
            rw [← z1] at y3'
            refine ⟨_, _, y3', ⟨by show 2 ≤ 2; decide, rfl, by simp [fltC, Value.oneCell']⟩, ?_⟩
            intro h53 w53
            have z53 := w53.size
            have zF := F40.ext.size
            refine cw_ret ?_
            conv => whnf
            refine ⟨anZ, rfl, (w53.blk (x52.blk w51.new) (by omega)).all, ?_⟩
            conv => whnf
            refine ⟨fltC 230 0, rfl, w53.new.all, ?_⟩
            exact ⟨_, rfl, RA.zero _, ⟨by omega, fun b hb => by rw [w53.block b (by omega), x52.block b (by omega), w51.block b (by omega), x50.block b (by omega), F40.ext.block b hb]⟩⟩
          rw [decide_eq_true (hend.2 hfe)]
          conv => whnf
          refine ⟨anC (code : Int) (.slice da ds.length dc) (.slice ua us.length uc) bv (.slice ra rs.length rc), rfl, y40.all, ?_⟩
          conv => whnf
          have hE1 := hG _ hfe
          rw [hE1] at hRA
          simp only at hRA
          refine ⟨_, rfl, _, may_fn (RA.of (code := (code : Int)) (bv := bv) (ODg.r od40) (OT.r ou40) (OSe.r os40)) hU, ?_⟩
          rintro _ h41 ⟨rfl, x41⟩
          have F41 := F40.more x41
          have z41 := x41.size
          have y41 := x41.blk y40
          have ra41 := RA.of (code := (code : Int)) (bv := bv) ((ODg.r od40).more x41) ((OT.r ou40).more x41) ((OSe.r os40).more x41)
          cases hm : Cd.may ⟨(code : Int), ds, us, bv, rs⟩ with
          | false =>
            conv => whnf
            refine cw_true rfl ?_
            have hAn : A = none := by rw [hRA, if_neg (fun h => by rw [hm] at h; cases h.2)]
            subst hAn
            refine cw_seq (cw_keeps (by kernel_rfl) 3 (fun b => b ≠ h.size) (.q 0 (.q 1 (.i1 2 .leaf))) (by kernel_rfl) rfl ?_)
            conv => whnf
            refine ⟨.agg anZ.toArray, fun h' e => ⟨_, rfl, anZ.toArray, fun w => by kernel_rfl, rfl⟩, ?_⟩
            conv => whnf
            refine ⟨.agg (fltC 230 0).toArray, fun h' e => ⟨fltC 230 0, rfl, (extP_blk e F41.y5 (show b ≠ h.size by have := F41.o1; have := F41.o2; omega)).all, rfl⟩, ?_⟩
            conv => whnf
            intro h50 x50
            conv => whnf
            have F50 := F41.more x50
            refine ⟨_, _, F50.y2, ⟨by show 5 ≤ 5; decide, rfl, by simp [anZ, anC, strv, Value.oneCell']⟩, ?_⟩
            intro h51 w51
            conv => whnf
            have z50 := x50.size
            have z51 := w51.size
            refine ⟨⟨by omega, fun b hb hlt => w51.block b hb⟩, ?_⟩
            intro h52a x52a
            conv => whnf
            intro h52 x52b
            conv => whnf
            have x52 := x52a.trans x52b
            have z52 := x52.size
            have y3' := x52.blk (w51.blk F50.y3 (by omega))
            rw [← z1] at y3'
            refine ⟨_, _, y3', ⟨by show 2 ≤ 2; decide, rfl, by simp [fltC, Value.oneCell']⟩, ?_⟩
            intro h53 w53
            have z53 := w53.size
            have zF := F41.ext.size
            refine cw_ret ?_
            conv => whnf
            refine ⟨anZ, rfl, (w53.blk (x52.blk w51.new) (by omega)).all, ?_⟩
            conv => whnf
            refine ⟨fltC 230 0, rfl, w53.new.all, ?_⟩
            exact ⟨_, rfl, RA.zero _, ⟨by omega, fun b hb => by rw [w53.block b (by omega), x52.block b (by omega), w51.block b (by omega), x50.block b (by omega), F41.ext.block b hb]⟩⟩
          | true =>
            conv => whnf
            refine cw_false rfl (cw_skip ?_)
            have hAs : A = some ⟨(code : Int), ds, us, bv, rs⟩ := by rw [hRA, if_pos ⟨trivial, hm⟩]
            subst hAs
            refine cw_seq (cw_go rfl ?_)
            conv => whnf
            refine ⟨anC (code : Int) (.slice da ds.length dc) (.slice ua us.length uc) bv (.slice ra rs.length rc), rfl, y41.all, ?_⟩
            conv => whnf
            refine ⟨_, rfl, (fltC 0 0).toArray, fun w => by kernel_rfl, ?_⟩
            conv => whnf
            conv => whnf
            refine ⟨_, _, F41.y2, ⟨by show 5 ≤ 5; decide, rfl, by simp [anC, strv, Value.oneCell']⟩, ?_⟩
            intro h51 w51
            conv => whnf
            have z51 := w51.size
            have y3' := w51.blk F41.y3 (by omega)
            rw [← z1] at y3'
            refine ⟨_, _, y3', ⟨by show 2 ≤ 2; decide, rfl, by simp [fltC, Value.oneCell']⟩, ?_⟩
            intro h53 w53
            have z53 := w53.size
            have zF := F41.ext.size
            refine cw_ret ?_
            conv => whnf
            refine ⟨anC (code : Int) (.slice da ds.length dc) (.slice ua us.length uc) bv (.slice ra rs.length rc), rfl, (w53.blk w51.new (by omega)).all, ?_⟩
            conv => whnf
            refine ⟨fltC 0 0, rfl, w53.new.all, ?_⟩
            have hos : ∀ x, ob (.slice ra rs.length rc) x → h.size + 1 < x := fun x hx => by have := fr20 x hx; have := F30.o1; omega
            refine ⟨_, rfl, ?_, ⟨by omega, fun b hb => by rw [w53.block b (by omega), w51.block b (by omega), F41.ext.block b hb]⟩⟩
            have c53 : Chg (fun x => x = h.size ∨ x = h.size + 1) h41 h53 := ⟨by omega, fun x hx hne => by
              rw [w53.block x (fun e => hne (.inr (by omega))), w51.block x (fun e => hne (.inl e))]⟩
            refine RA.of (code := (code : Int)) (bv := bv) (ODg.r (OwnS.keep (OwnS.more od40 x41) c53 (fun x hx e1 => ?_))) (OT.r (OwnS.keep (OwnS.more ou40 x41) c53 (fun x hx e1 => ?_))) (OSe.r ⟨OwnS.keep (OwnS.more os40.1 x41) c53 (fun x hx e1 => ?_), os40.2⟩)
            · have := fD x hx; have := F30.o1; omega
            · have := fU x hx; have := F30.o1; omega
            · have := hos x hx; omega
        | some k7 =>
          obtain ⟨rfl, hk7, rfl, rfl⟩ := hst
          rw [decide_eq_true ⟨rfl, rfl⟩]
          conv => whnf
          refine cw_true rfl (cw_skip ?_)
          obtain ⟨fin, R21, od21, ou21, os21, F21, y21, rfl⟩ := done h21 x21
          clear done yr rr
          have z21 := x21.size
          obtain ⟨m, rfl⟩ : ∃ k, m = k + 1 := ⟨m - 1, by omega⟩
          obtain ⟨j1, j2, j3⟩ := J
          rw [Cd.rdReads_succ] at j2 j3
          refine cw_seq (cw_block ?_)
          refine cw_seq (cw_go rfl ?_)
          conv => whnf
          refine ⟨_, rfl, _, text_fn R21 hs (most := 4096) (by decide), ?_⟩
          rintro _ h22 ⟨rfl, R22, c22⟩
          generalize Cd.text s 4096 (some k7) = rx at R22 j2 j3 ⊢
          obtain ⟨tx, t1⟩ := rx
          simp only at R22 j2 j3 ⊢
          have z22 := c22.size
          conv => whnf
          refine ⟨_, rfl, (seC ⟨tx, 0, 0, List.replicate 32 0⟩).toArray, fun w => by kernel_rfl, ?_⟩
          conv => whnf
          conv => whnf
          intro h23 n23
          conv => whnf
          have z23 := n23.size
          have yb : Blk h23 h22.size (seC se0) 55 := n23.blk
          refine ⟨_, _, yb, ⟨by show 35 ≤ 35; decide, rfl, seC1 _⟩, ?_⟩
          intro h24 w24
          replace w24 := w24.cast (splice_all (by show (seC _).length = (seC _).length; rw [seC_len rfl, seC_len rfl]))
          have z24 := w24.size
          have k24 : Blk h24 h22.size (seC ⟨tx, 0, 0, List.replicate 32 0⟩) 55 := w24.new
          have x24 : ExtH h22 h24 := ⟨by omega, fun b hb => by rw [w24.block b (by omega), n23.block b hb]⟩
          have R24 := R22.keep (x24.chg (S := fun _ => False)) (fun _ _ h => h)
          have c24 : Own1 p h21 h24 := ⟨by omega, fun x hx hne => by rw [x24.block x (by omega), c22.block x hx hne]⟩
          have hd22 : d < h22.size := by omega
          have q22 : h21.size ≤ h22.size := z22
          generalize h22.size = g at *
          clear yb w24 n23 x24
          conv => whnf
          refine cw_seq (cw_go rfl ?_)
          conv => whnf
          refine ⟨_, rfl, _, count_fn R24 hs (most := 4) (by decide), ?_⟩
          rintro _ h25 ⟨rfl, R25, c25⟩
          generalize Cd.count s 4 t1 = rx at R25 j2 j3 ⊢
          obtain ⟨what, t2⟩ := rx
          simp only at R25 j2 j3 ⊢
          have z25 := c25.size
          have k25 := blk_keep k24 c25 (show ¬ g = p by omega)
          conv => whnf
          refine ⟨_, _, k25, by show 1 < 35; decide, ?_⟩
          intro h26 w26
          replace w26 := w26.cast (l' := seC ⟨tx, (what : Int), 0, List.replicate 32 0⟩) (by rfl)
          have z26 := w26.size
          have R26 := R25.keep w26.chg (fun x hx e1 => by omega)
          conv => whnf
          refine cw_seq (cw_go rfl ?_)
          conv => whnf
          refine ⟨_, rfl, _, count_fn R26 hs (most := 3) (by decide), ?_⟩
          rintro _ h27 ⟨rfl, R27, c27⟩
          generalize Cd.count s 3 t2 = rx at R27 j2 j3 ⊢
          obtain ⟨kind, t3⟩ := rx
          simp only at R27 j2 j3 ⊢
          have z27 := c27.size
          have k27 := blk_keep w26.new c27 (show ¬ g = p by omega)
          conv => whnf
          refine ⟨_, _, k27, by show 2 < 35; decide, ?_⟩
          intro h28 w28
          replace w28 := w28.cast (l' := seC ⟨tx, (what : Int), (kind : Int), List.replicate 32 0⟩) (by rfl)
          have z28 := w28.size
          have R28 := R27.keep w28.chg (fun x hx e1 => by omega)
          conv => whnf
          refine cw_seq (cw_keeps (by kernel_rfl) 4 (fun x => x ≠ p) (.q 0 (.q 1 (.q 2 (.i1 3 .leaf)))) (by kernel_rfl) rfl ?_)
          conv => whnf
          refine ⟨.pointer (some ⟨g, 3, none⟩), fun h' e => rfl, ?_⟩
          conv => whnf
          refine ⟨.slice (some ⟨g, 3, none⟩) 32 32, fun h' e => ⟨by decide, ⟨g, 3, none⟩, rfl, rfl⟩, ?_⟩
          conv => whnf
          refine ⟨.pointer (some ⟨p, 0, none⟩), fun h' e => rfl, ?_⟩
          conv => whnf
          intro h29 x29
          refine ⟨_, rfl, _, raw_fn (R28.keep (x29.chg (S := fun _ => False)) (fun _ _ h => h)) hs (n := 32) (by decide), ?_⟩
          rintro u h30 ⟨o30, R30, c30, f30⟩
          refine ⟨⟨c30.size, fun x hx hlt => c30.block x hlt hx⟩, ?_⟩
          intro h31a x31a
          conv => whnf
          intro h31 x31b
          conv => whnf
          have x31 := x31a.trans x31b
          have z29 := x29.size
          have z30 := c30.size
          have z31 := x31.size
          have hr32 : (Cd.raw s 32 t3).1.length = 0 ∨ (Cd.raw s 32 t3).1.length = 32 := Cd.raw_len s 32 t3
          have hr0 : (Cd.raw s 32 t3).2 ≠ none → (Cd.raw s 32 t3).1.length = 32 := Cd.raw_some s 32 t3
          generalize Cd.raw s 32 t3 = rx at R30 o30 j2 j3 hr32 hr0 ⊢
          obtain ⟨dg, t4⟩ := rx
          simp only at R30 o30 j2 j3 hr32 hr0 ⊢
          have k31 : Blk h31 g (seC ⟨tx, (what : Int), (kind : Int), List.replicate 32 0⟩) 55 := x31.blk (blk_keep (x29.blk w28.new) c30 (show ¬ g = p by omega))
          have R31 := R30.keep (x31.chg (S := fun _ => False)) (fun _ _ h => h)
          refine ⟨_, rfl, _, copy_dig (ty := 3) k31 rfl (OB.r (OwnS.more o30 x31)) (by omega), ?_⟩
          rintro _ h32 ⟨k32, c32⟩
          have z32 := c32.size
          have hL32 : (dg ++ (List.replicate 32 (0 : UInt8)).drop dg.length).length = 32 := by
            rw [List.length_append, List.length_drop, List.length_replicate]; omega
          generalize hX : (Cd.Se.mk tx (what : Int) (kind : Int) (dg ++ (List.replicate 32 (0 : UInt8)).drop dg.length)) = X
          have hXd : X.dig.length = 32 := by rw [← hX]; exact hL32
          have k32' : Blk h32 g (seC X) 55 := by rw [← hX]; exact k32
          have R32 := R31.keep c32 (fun x hx e1 => by omega)
          have c33 : Chg (fun x => x = p ∨ x = g) h21 h32 := ⟨by omega, fun x hx hne => by
            have h1 : x ≠ p := fun e => hne (.inl e)
            have h2 : x ≠ g := fun e => hne (.inr e)
            rw [c32.block x (by omega) h2, x31.block x (by omega), c30.block x (by omega) h1, x29.block x (by omega), w28.block x h2, c27.block x (by omega) h1, w26.block x h2, c25.block x (by omega) h1, c24.block x hx h1]⟩
          have F32 := F21.step c33 (fun x hx => hx.elim .inl (fun e1 => .inr (by omega)))
          have y32 := blk_keep y21 c33 (by omega)
          have od32 := OwnS.keep od21 c33 (fun x hx e1 => by have := fD x hx; omega)
          have ou32 := OwnS.keep ou21 c33 (fun x hx e1 => by have := fU x hx; omega)
          have hos : ∀ x, ob (.slice ra rs.length rc) x → x < h21.size := fun x hx => by
            rcases os21.1.2 with ⟨hv, _⟩ | ⟨g', cap, tl, hv, hg', _⟩
            · rw [hv] at hx; exact (ob_nil hx).elim
            · rw [hv, ob_slice] at hx; subst hx; exact hg'.lt
          have os32 : OSe h32 (.slice ra rs.length rc) rs := ⟨OwnS.keep os21.1 c33 (fun x hx e1 => by have := fr20 x hx; have := hos x hx; omega), os21.2⟩
          conv => whnf
          refine cw_go rfl ?_
          conv => whnf
          refine ⟨_, y32.rd (o := 4) rfl, ?_⟩
          conv => whnf
          refine ⟨seC X, seC_len hXd, k32'.all, ?_⟩
          conv => whnf
          refine ⟨_, rfl, (seC X).toArray, 55, fun wd => build_se hXd wd, ?_⟩
          intro h33 n33
          have z33 := n33.size
          conv => whnf
          refine ⟨_, rfl, _, append_se (ty := 25) (⟨OwnS.more os32.1 n33.ext, os32.2⟩ : OSe h33 _ _) (RSe.one hXd n33) (by simp only [List.length_cons, List.length_nil]; omega), ?_⟩
          rintro u h34 ⟨o34, c34, f34⟩
          have z34 := c34.size
          obtain ⟨wa, wc, hwe, _⟩ := Vm.Src.form (OSe.r o34).1
          subst hwe
          have c35 : Chg (fun x => h17.size ≤ x) h32 h34 := ⟨by omega, fun x hx hne => by
            rw [c34.block x (by omega) (fun h => by have := fr20 x h; omega), n33.block x hx]⟩
          have F34 := F32.step c35 (fun x hx => .inr (by omega))
          have R34 := R32.keep c35 (fun x hx e1 => by omega)
          have y34 := blk_keep y32 c35 (by omega)
          have od34 := OwnS.keep od32 c35 (fun x hx e1 => by have := fD x hx; omega)
          have ou34 := OwnS.keep ou32 c35 (fun x hx e1 => by have := fU x hx; omega)
          conv => whnf
          refine ⟨_, _, y34, by show 4 < 5; decide, ?_⟩
          intro h36 w36
          replace w36 := w36.cast (l' := anC (code : Int) (.slice da ds.length dc) (.slice ua us.length uc) bv (.slice wa (rs ++ [X]).length wc)) (by rfl)
          have z36 := w36.size
          have f34' : ∀ x, ob (.slice wa (rs ++ [X]).length wc) x → h17.size ≤ x := fun x hx => (f34 x hx).elim (fr20 x) (fun e1 => by omega)
          have F36 := F34.step w36.chg (fun x hx => .inr (by omega))
          have R36 := R34.keep w36.chg (fun x hx e1 => by omega)
          have od36 := OwnS.keep od34 w36.chg (fun x hx e1 => by have := fD x hx; omega)
          have ou36 := OwnS.keep ou34 w36.chg (fun x hx e1 => by have := fU x hx; omega)
          have os36 : OSe h36 (.slice wa (rs ++ [X]).length wc) (rs ++ [X]) := ⟨OwnS.keep o34.1 w36.chg (fun x hx e1 => by have := f34' x hx; omega), o34.2⟩
          conv => whnf
          refine cw_go rfl ?_
          conv => whnf
          refine say_w (y := ((m : Nat) : Int)) (by show IntKind.i64.wrap (((m + 1 : Nat) : Int) - 1) = _; rw [IntKind.wrap_i64]; omega) ?_
          conv => whnf
          refine ⟨(.slice wa (rs ++ [X]).length wc, rs ++ [X], m, t4), ⟨rfl, rfl, rfl, rfl, rfl, rfl, trivial⟩, ⟨⟨_, _, rfl⟩, os36, f34', od36, ou36, R36, F36, w36.new, by omega, ?_⟩, by show m < m + 1; omega⟩
          cases t4 with
          | none =>
            show E.2 = none
            rw [← j3]; exact Cd.rdReads_none s m
          | some a4 =>
            have hd32 := hr0 (by simp)
            refine ⟨?_, ?_, j3⟩
            · show (rs ++ [X]).length + m ≤ 65536
              simp only [List.length_append, List.length_cons, List.length_nil]; omega
            · have hXe : X = ⟨tx, (what : Int), (kind : Int), dg⟩ := by
                rw [← hX, List.drop_eq_nil_of_le (by simp; omega), List.append_nil]
              rw [← j2, hXe]; simp
      · conv => whnf
        refine cw_false rfl (cw_exit ?_)
        have hm0 : m = 0 := by have hg' : ¬ (m : Int) > 0 := hg; omega
        subst hm0
        obtain ⟨fin, R30, od30, ou30, os30, F30, y30, hfin⟩ := done h20 (ExtH.refl _)
        subst hfin
        have hG : ∀ k, fin = some k → E = (rs, some k) := fun k hk => by
          rw [hk] at J
          obtain ⟨_, j2, j3⟩ := J
          exact Prod.ext (j2.symm.trans (List.append_nil rs)) j3.symm
        have hN : fin = none → E.2 = none := fun hf => by rw [hf] at J; exact J
        clear done
        have hE2 : E.2 = some s.length → fin = some s.length := fun h => by
          cases hf : fin with
          | none => rw [hN hf] at h; cases h
          | some k => rw [hG k hf] at h; exact h
        have hRA := Cd.readA_eq hK0 heq hK1 hK2 hD hK4 hK5 hK6 (show Cd.rdReads s n2 s6 = (E.1, E.2) from hE)
        rw [hA] at hRA
        have hpb30 := F30.o2
        have zd30 := y30.lt
        refine cw_seq (cw_seq (cw_go rfl ?_))
        conv => whnf
        refine ⟨_, rfl, _, end_fn R30 hs, ?_⟩
        rintro u h40 ⟨e40, a40, rfl, he40, ha40, hend, c40⟩
        have F40 := F30.step c40 (fun x hx => .inl hx)
        have z40 := c40.size
        have y40 := blk_keep y30 c40 (show ¬ d = p by omega)
        have od40 : ODg h40 (.slice da ds.length dc) ds := OwnS.keep od30 c40 (fun x hx e1 => by have := fD x hx; omega)
        have ou40 : OT h40 (.slice ua us.length uc) us := OwnS.keep ou30 c40 (fun x hx e1 => by have := fU x hx; omega)
        have os40 : OSe h40 (.slice ra rs.length rc) rs := ⟨OwnS.keep os30.1 c40 (fun x hx e1 => by have := fr20 x hx; omega), os30.2⟩
        conv => whnf
        refine ⟨_, rfl, (fltC 0 0).toArray, fun w => by kernel_rfl, ?_⟩
        conv => whnf
        conv => whnf
        refine ⟨_, fun w => flt_neq he40 ha40 (by decide) (by decide) _ _ w, ?_⟩
        by_cases hfe : fin = some s.length
        case' neg =>
          rw [decide_eq_false (fun h => hfe (hend.1 h))]
          conv => whnf
          refine cw_true rfl ?_
          have hAn : A = none := by rw [hRA, if_neg (fun h => hfe (hE2 h.1))]
          subst hAn
          refine cw_seq (cw_keeps (by kernel_rfl) 3 (fun b => b ≠ h.size) (.q 0 (.q 1 (.i1 2 .leaf))) (by kernel_rfl) rfl ?_)
          conv => whnf
          refine ⟨.agg anZ.toArray, fun h' e => ⟨_, rfl, anZ.toArray, fun w => by kernel_rfl, rfl⟩, ?_⟩
          conv => whnf
          refine ⟨.agg (fltC 230 0).toArray, fun h' e => ⟨fltC 230 0, rfl, (extP_blk e F40.y5 (show b ≠ h.size by have := F40.o1; have := F40.o2; omega)).all, rfl⟩, ?_⟩
          conv => whnf
          intro h50 x50
          conv => whnf
          have F50 := F40.more x50
          refine ⟨_, _, F50.y2, ⟨by show 5 ≤ 5; decide, rfl, by simp [anZ, anC, strv, Value.oneCell']⟩, ?_⟩
          intro h51 w51
          conv => whnf
          have z50 := x50.size
          have z51 := w51.size
          refine ⟨⟨by omega, fun b hb hlt => w51.block b hb⟩, ?_⟩
          intro h52a x52a
          conv => whnf
          intro h52 x52b
          conv => whnf
          have x52 := x52a.trans x52b
          have z52 := x52.size
          have y3' := x52.blk (w51.blk F50.y3 (by omega))
          rw [← z1] at y3'
          refine ⟨_, _, y3', ⟨by show 2 ≤ 2; decide, rfl, by simp [fltC, Value.oneCell']⟩, ?_⟩
          intro h53 w53
          have z53 := w53.size
          have zF := F40.ext.size
          refine cw_ret ?_
          conv => whnf
          refine ⟨anZ, rfl, (w53.blk (x52.blk w51.new) (by omega)).all, ?_⟩
          conv => whnf
          refine ⟨fltC 230 0, rfl, w53.new.all, ?_⟩
          exact ⟨_, rfl, RA.zero _, ⟨by omega, fun b hb => by rw [w53.block b (by omega), x52.block b (by omega), w51.block b (by omega), x50.block b (by omega), F40.ext.block b hb]⟩⟩
        rw [decide_eq_true (hend.2 hfe)]
        conv => whnf
        refine ⟨anC (code : Int) (.slice da ds.length dc) (.slice ua us.length uc) bv (.slice ra rs.length rc), rfl, y40.all, ?_⟩
        conv => whnf
        have hE1 := hG _ hfe
        rw [hE1] at hRA
        simp only at hRA
        refine ⟨_, rfl, _, may_fn (RA.of (code := (code : Int)) (bv := bv) (ODg.r od40) (OT.r ou40) (OSe.r os40)) hU, ?_⟩
        rintro _ h41 ⟨rfl, x41⟩
        have F41 := F40.more x41
        have z41 := x41.size
        have y41 := x41.blk y40
        have ra41 := RA.of (code := (code : Int)) (bv := bv) ((ODg.r od40).more x41) ((OT.r ou40).more x41) ((OSe.r os40).more x41)
        cases hm : Cd.may ⟨(code : Int), ds, us, bv, rs⟩ with
        | false =>
          conv => whnf
          refine cw_true rfl ?_
          have hAn : A = none := by rw [hRA, if_neg (fun h => by rw [hm] at h; cases h.2)]
          subst hAn
          refine cw_seq (cw_keeps (by kernel_rfl) 3 (fun b => b ≠ h.size) (.q 0 (.q 1 (.i1 2 .leaf))) (by kernel_rfl) rfl ?_)
          conv => whnf
          refine ⟨.agg anZ.toArray, fun h' e => ⟨_, rfl, anZ.toArray, fun w => by kernel_rfl, rfl⟩, ?_⟩
          conv => whnf
          refine ⟨.agg (fltC 230 0).toArray, fun h' e => ⟨fltC 230 0, rfl, (extP_blk e F41.y5 (show b ≠ h.size by have := F41.o1; have := F41.o2; omega)).all, rfl⟩, ?_⟩
          conv => whnf
          intro h50 x50
          conv => whnf
          have F50 := F41.more x50
          refine ⟨_, _, F50.y2, ⟨by show 5 ≤ 5; decide, rfl, by simp [anZ, anC, strv, Value.oneCell']⟩, ?_⟩
          intro h51 w51
          conv => whnf
          have z50 := x50.size
          have z51 := w51.size
          refine ⟨⟨by omega, fun b hb hlt => w51.block b hb⟩, ?_⟩
          intro h52a x52a
          conv => whnf
          intro h52 x52b
          conv => whnf
          have x52 := x52a.trans x52b
          have z52 := x52.size
          have y3' := x52.blk (w51.blk F50.y3 (by omega))
          rw [← z1] at y3'
          refine ⟨_, _, y3', ⟨by show 2 ≤ 2; decide, rfl, by simp [fltC, Value.oneCell']⟩, ?_⟩
          intro h53 w53
          have z53 := w53.size
          have zF := F41.ext.size
          refine cw_ret ?_
          conv => whnf
          refine ⟨anZ, rfl, (w53.blk (x52.blk w51.new) (by omega)).all, ?_⟩
          conv => whnf
          refine ⟨fltC 230 0, rfl, w53.new.all, ?_⟩
          exact ⟨_, rfl, RA.zero _, ⟨by omega, fun b hb => by rw [w53.block b (by omega), x52.block b (by omega), w51.block b (by omega), x50.block b (by omega), F41.ext.block b hb]⟩⟩
        | true =>
          conv => whnf
          refine cw_false rfl (cw_skip ?_)
          have hAs : A = some ⟨(code : Int), ds, us, bv, rs⟩ := by rw [hRA, if_pos ⟨trivial, hm⟩]
          subst hAs
          refine cw_seq (cw_go rfl ?_)
          conv => whnf
          refine ⟨anC (code : Int) (.slice da ds.length dc) (.slice ua us.length uc) bv (.slice ra rs.length rc), rfl, y41.all, ?_⟩
          conv => whnf
          refine ⟨_, rfl, (fltC 0 0).toArray, fun w => by kernel_rfl, ?_⟩
          conv => whnf
          conv => whnf
          refine ⟨_, _, F41.y2, ⟨by show 5 ≤ 5; decide, rfl, by simp [anC, strv, Value.oneCell']⟩, ?_⟩
          intro h51 w51
          conv => whnf
          have z51 := w51.size
          have y3' := w51.blk F41.y3 (by omega)
          rw [← z1] at y3'
          refine ⟨_, _, y3', ⟨by show 2 ≤ 2; decide, rfl, by simp [fltC, Value.oneCell']⟩, ?_⟩
          intro h53 w53
          have z53 := w53.size
          have zF := F41.ext.size
          refine cw_ret ?_
          conv => whnf
          refine ⟨anC (code : Int) (.slice da ds.length dc) (.slice ua us.length uc) bv (.slice ra rs.length rc), rfl, (w53.blk w51.new (by omega)).all, ?_⟩
          conv => whnf
          refine ⟨fltC 0 0, rfl, w53.new.all, ?_⟩
          have hos : ∀ x, ob (.slice ra rs.length rc) x → h.size + 1 < x := fun x hx => by have := fr20 x hx; have := F30.o1; omega
          refine ⟨_, rfl, ?_, ⟨by omega, fun b hb => by rw [w53.block b (by omega), w51.block b (by omega), F41.ext.block b hb]⟩⟩
          have c53 : Chg (fun x => x = h.size ∨ x = h.size + 1) h41 h53 := ⟨by omega, fun x hx hne => by
            rw [w53.block x (fun e => hne (.inr (by omega))), w51.block x (fun e => hne (.inl e))]⟩
          refine RA.of (code := (code : Int)) (bv := bv) (ODg.r (OwnS.keep (OwnS.more od40 x41) c53 (fun x hx e1 => ?_))) (OT.r (OwnS.keep (OwnS.more ou40 x41) c53 (fun x hx e1 => ?_))) (OSe.r ⟨OwnS.keep (OwnS.more os40.1 x41) c53 (fun x hx e1 => ?_), os40.2⟩)
          · have := fD x hx; have := F30.o1; omega
          · have := fU x hx; have := F30.o1; omega
          · have := hos x hx; omega
    | succ m =>
      refine say_t (by show ((m + 1 : Nat) : Int) > 0; omega) ?_
      refine cw_true rfl (cw_skip ?_)
      rw [Cd.rdDiags_succ] at g1 g2
      refine cw_seq (cw_block ?_)
      refine cw_seq (cw_go rfl ?_)
      conv => whnf
      refine ⟨_, rfl, _, text_fn R12 hs (most := 4096) (by decide), ?_⟩
      rintro _ h13 ⟨rfl, R13, c13⟩
      have z13 := c13.size
      have z12 := y12.lt
      generalize Cd.text s 4096 st = tx at R13 g1 g2 ⊢
      obtain ⟨tx, s3⟩ := tx
      simp only at R13 g1 g2 ⊢
      conv => whnf
      refine ⟨_, rfl, (dgC ⟨tx, 0, 0⟩).toArray, fun w => by kernel_rfl, ?_⟩
      conv => whnf
      conv => whnf
      intro h14 n14
      conv => whnf
      have z14 := n14.size
      have yb : Blk h14 h13.size (dgC dg0) 50 := n14.blk
      refine ⟨_, _, yb, ⟨by show 3 ≤ 3; decide, rfl, dgC1 _⟩, ?_⟩
      intro h15 w15
      have z15 := w15.size
      have k15 : Blk h15 h13.size (dgC ⟨tx, 0, 0⟩) 50 := w15.new
      have x15 : ExtH h13 h15 := ⟨by omega, fun b hb => by rw [w15.block b (by omega), n14.block b hb]⟩
      have R15 : RdAt h15 p s s3 := R13.keep (x15.chg (S := fun _ => False)) (fun _ _ h => h)
      have c15 : Own1 p h12 h15 := ⟨by omega, fun x hx hne => by rw [x15.block x (by omega), c13.block x hx hne]⟩
      have hd12 : d < h13.size := by omega
      have q13 : h12.size ≤ h13.size := c13.size
      generalize h13.size = e at *
      clear yb w15 n14
      conv => whnf
      refine cw_seq (cw_go rfl ?_)
      conv => whnf
      refine ⟨_, rfl, _, count_fn R15 hs (most := 2147483647) (by decide), ?_⟩
      rintro _ h16 ⟨rfl, R16, c16⟩
      have z16 := c16.size
      have k16 := blk_keep k15 c16 (show ¬ e = p by omega)
      change _ ++ (⟨tx, ((Cd.count s 2147483647 s3).1 : Int), ((Cd.count s 2147483647 (Cd.count s 2147483647 s3).2).1 : Int)⟩ :: (Cd.rdDiags s m (Cd.count s 2147483647 (Cd.count s 2147483647 s3).2).2).1) = _ at g1
      change (Cd.rdDiags s m (Cd.count s 2147483647 (Cd.count s 2147483647 s3).2).2).2 = _ at g2
      generalize Cd.count s 2147483647 s3 = cw at R16 g1 g2 ⊢
      obtain ⟨why, s4⟩ := cw
      simp only at R16 g1 g2 ⊢
      conv => whnf
      refine ⟨_, _, k16, by show 1 < 3; decide, ?_⟩
      intro h17 w17
      replace w17 := w17.cast (l' := dgC ⟨tx, (why : Int), 0⟩) (by rfl)
      have z17 := w17.size
      have R17 := R16.keep (w17.chg) (fun x hx e1 => by omega)
      conv => whnf
      refine cw_seq (cw_go rfl ?_)
      conv => whnf
      refine ⟨_, rfl, _, count_fn R17 hs (most := 2147483647) (by decide), ?_⟩
      rintro _ h18 ⟨rfl, R18, c18⟩
      have z18 := c18.size
      have k18 := blk_keep w17.new c18 (show ¬ e = p by omega)
      generalize Cd.count s 2147483647 s4 = cw at R18 g1 g2 ⊢
      obtain ⟨at_, s5⟩ := cw
      simp only at R18 g1 g2 ⊢
      conv => whnf
      refine ⟨_, _, k18, by show 2 < 3; decide, ?_⟩
      intro h19 w19
      replace w19 := w19.cast (l' := dgC (Cd.Dg.mk tx (why : Int) (at_ : Int))) (by rfl)
      have z19 := w19.size
      have R19 := R18.keep (w19.chg) (fun x hx e1 => by omega)
      have c19 : Chg (fun x => x = p ∨ x = e) h12 h19 := ⟨by omega, fun x hx hne => by
        have h1 : x ≠ p := fun e => hne (.inl e)
        have h2 : x ≠ e := fun e => hne (.inr e)
        rw [w19.block x h2, c18.block x (by omega) h1, w17.block x h2, c16.block x (by omega) h1, c15.block x hx h1]⟩
      have F19 := F12.step c19 (fun x hx => hx.elim .inl (fun e1 => .inr (by omega)))
      have y19 := blk_keep y12 c19 (by omega)
      have o19 : ODg h19 (.slice da ds.length dc) ds := OwnS.keep o12 c19 (fun x hx => by
        have hlt : x < h12.size := by
          rcases o12.2 with ⟨hv, _⟩ | ⟨g, cap, tl, hv, hg, _⟩
          · rw [hv] at hx; exact (ob_nil hx).elim
          · rw [hv, ob_slice] at hx; subst hx; exact hg.lt
        have := f12 x hx
        omega)
      conv => whnf
      refine cw_go rfl ?_
      conv => whnf
      refine ⟨_, y19.rd (o := 1) rfl, ?_⟩
      conv => whnf
      refine ⟨dgC (Cd.Dg.mk tx (why : Int) (at_ : Int)), rfl, w19.new.all, ?_⟩
      conv => whnf
      refine ⟨_, rfl, (dgC (Cd.Dg.mk tx (why : Int) (at_ : Int))).toArray, 50, fun w => by kernel_rfl, ?_⟩
      conv => whnf
      intro h20 n20
      have z20 := n20.size
      conv => whnf
      refine ⟨_, rfl, _, append_dg (ty := 23) (OwnS.more o19 n20.ext) (RDg.one n20) (by simp only [List.length_cons, List.length_nil]; omega), ?_⟩
      rintro u h21 ⟨o21, c21, f21⟩
      have z21 := c21.size
      obtain ⟨ua, uc, hue, _⟩ := Vm.Src.form (ODg.r o21)
      subst hue
      have c20 : Chg (fun x => d < x) h19 h21 := ⟨by omega, fun x hx hne => by
        rw [c21.block x (by omega) (fun h => by have := f12 x h; omega), n20.block x hx]⟩
      have F21 := F19.step c20 (fun x hx => .inr (by omega))
      have R21 := R19.keep c20 (fun x hx e1 => by omega)
      have y21 := blk_keep y19 c20 (by omega)
      conv => whnf
      refine ⟨_, _, y21, by show 1 < 5; decide, ?_⟩
      intro h22 w22
      replace w22 := w22.cast (l' := anC (code : Int) (.slice ua (ds ++ [(Cd.Dg.mk tx (why : Int) (at_ : Int))]).length uc) nilS [] nilS) (by rfl)
      have f21' : ∀ x, ob (.slice ua (ds ++ [(Cd.Dg.mk tx (why : Int) (at_ : Int))]).length uc) x → d < x := fun x hx => (f21 x hx).elim (f12 x) (fun e1 => by omega)
      have F22 := F21.step w22.chg (fun x hx => .inr (by omega))
      have R22 := R21.keep w22.chg (fun x hx e1 => by omega)
      have o22 := OwnS.keep o21 w22.chg (fun x hx e1 => by have := f21' x hx; omega)
      conv => whnf
      refine cw_go rfl ?_
      conv => whnf
      refine say_w (y := ((m : Nat) : Int)) (by show IntKind.i64.wrap (((m + 1 : Nat) : Int) - 1) = _; rw [IntKind.wrap_i64]; omega) ?_
      conv => whnf
      refine ⟨(.slice ua (ds ++ [(Cd.Dg.mk tx (why : Int) (at_ : Int))]).length uc, ds ++ [(Cd.Dg.mk tx (why : Int) (at_ : Int))], m, s5), ⟨rfl, rfl, rfl, rfl, rfl, rfl, trivial⟩, ⟨⟨_, _, rfl⟩, o22, f21', R22, F22, w22.new, ?_, g2, ?_⟩, by show m < m + 1; omega⟩
      · rw [← g1]; simp
      · show (ds ++ [_]).length + m ≤ 64
        simp only [List.length_append, List.length_cons, List.length_nil]; omega
end Go.Proofs.YtkdmpdbbcgdfkaaGreatDoor
