/-
  The document's New of layers 8, 24, 25.
-/
import Derived.Test.YtgecapllodgdeaaGreatDoorTfTake
namespace Go.Proofs.YtgecapllodgdeaaGreatDoor
open Go Vm
set_option maxRecDepth 100000
set_option linter.unusedVariables false
set_option linter.unusedSimpArgs false
def stC (m : Int) : List Value := [.int .i64 m, .slice none 0 0, .int .i64 0, .int .i64 0, .int .i64 0, .int .i64 0, .slice none 0 0]
def coC (s n : Int) : List Value := [.int .i64 s, .int .i64 n, .slice none 0 0, .slice none 0 0, .int .i64 0, .int .i64 0, .int .i64 0, .slice none 0 0, .int .i64 0, .int .i64 0, .int .i64 0, .slice none 0 0, .int .i64 0, .int .i64 0, .int .i64 0, .slice none 0 0, .int .i64 0, .int .i64 0, .int .i64 0]
def rW (t : Tl) (m s n : Int) (v : Value) : List Value := tlC t ++ stC m ++ [.slice none 0 0, .int .i64 0, .int .i64 0] ++ coC s n ++ [v, .bool false]
theorem rsnew_fn (h : Heap) : Fx Tryz.prog 21 #[.int .i64 2097152] h fun u h' => u = .tuple #[.agg (stC 2097152).toArray, .int .i64 0] ∧ ExtH h h' := by
  refine fn_of 13 Tryz.func21 rfl (by kernel_rfl) rfl (by simp) ?_
  refine cw_seq (cw_go rfl ?_)
  intro h1 n1
  conv => whnf
  have y1 : Blk h1 h.size (stC 0) 38 := n1.blk
  have z1 := n1.size
  refine cw_seq (cw_seq (cw_go rfl ?_))
  repeat ((conv => whnf); first | refine ⟨_, Blk.rd ‹Blk _ _ _ _› rfl, ?_⟩ | refine ⟨_, rd_up ‹ExtH _ _› (Blk.rd ‹Blk _ _ _ _› rfl), ?_⟩ | refine And.intro ⟨by omega, by omega⟩ ?_ | refine say_i (by omega) ?_ | refine say_u8 (by omega) ?_ | refine say_u64 (by omega) ?_ | refine say_len ?_ | refine say_at ⟨by omega, by omega⟩ ?_ | refine say_to (by omega) (by omega) ?_ | refine say_from (by omega) (by omega) ?_ | refine say_t (by omega) ?_ | refine say_f (by omega) ?_)
  try (conv => whnf)
  refine cw_false rfl (cw_skip ?_)
  refine cw_seq (cw_go rfl ?_)
  conv => whnf
  refine ⟨_, rfl, (stC 2097152).toArray, fun w => by kernel_rfl, ?_⟩
  conv => whnf
  conv => whnf
  refine ⟨_, _, y1, ⟨by show 7 ≤ 7; decide, rfl, by simp [stC, Value.oneCell']⟩, ?_⟩
  intro h2 w2
  replace w2 := w2.cast (l' := stC 2097152) rfl
  have z2 := w2.size
  exact cw_ret ⟨_, rfl, w2.new.all, rfl, ⟨by omega, fun b hb => by rw [w2.block b (by omega), n1.block b hb]⟩⟩
theorem rcnew_fn (s n : Int) (hs : 1 ≤ s ∧ s ≤ 64) (hn : 1 ≤ n ∧ n ≤ 4096) (h : Heap) : Fx Tryz.prog 22 #[.int .i64 s, .int .i64 n] h fun u h' => u = .tuple #[.agg (coC s n).toArray, .int .i64 0] ∧ ExtH h h' := by
  refine fn_of 24 Tryz.func22 rfl (by kernel_rfl) rfl (by simp) ?_
  refine cw_seq (cw_go rfl ?_)
  intro h1 n1
  conv => whnf
  have y1 : Blk h1 h.size (coC 0 0) 47 := n1.blk
  have z1 := n1.size
  refine cw_seq (cw_seq (cw_go rfl ?_))
  repeat ((conv => whnf); first | refine ⟨_, Blk.rd ‹Blk _ _ _ _› rfl, ?_⟩ | refine ⟨_, rd_up ‹ExtH _ _› (Blk.rd ‹Blk _ _ _ _› rfl), ?_⟩ | refine And.intro ⟨by omega, by omega⟩ ?_ | refine say_i (by omega) ?_ | refine say_u8 (by omega) ?_ | refine say_u64 (by omega) ?_ | refine say_len ?_ | refine say_at ⟨by omega, by omega⟩ ?_ | refine say_to (by omega) (by omega) ?_ | refine say_from (by omega) (by omega) ?_ | refine say_t (by omega) ?_ | refine say_f (by omega) ?_)
  try (conv => whnf)
  refine cw_false rfl (cw_skip ?_)
  refine cw_seq (cw_go rfl ?_)
  conv => whnf
  refine ⟨_, rfl, (coC s n).toArray, fun w => by kernel_rfl, ?_⟩
  conv => whnf
  conv => whnf
  refine ⟨_, _, y1, ⟨by show 19 ≤ 19; decide, rfl, by simp [coC, Value.oneCell']⟩, ?_⟩
  intro h2 w2
  replace w2 := w2.cast (l' := coC s n) rfl
  have z2 := w2.size
  exact cw_ret ⟨_, rfl, w2.new.all, rfl, ⟨by omega, fun b hb => by rw [w2.block b (by omega), n1.block b hb]⟩⟩
theorem rsay_fn {h : Heap} {p : Nat} {t : Tl} {m s0 n0 : Int} (W : Blk h p (rW t m s0 n0 (.slice none 0 0)) 49) (s : Nat) (hs : 1 ≤ s ∧ s ≤ 64) {g : List UInt8} (hg : g.length = 32) :
    Fx Tryz.prog 23 #[pp p, .agg (frC 1 1 s g).toArray] h fun _ h' => ∃ v, Blk h' p (rW t m s0 n0 v) 49 ∧ OB h' v (encS s g) ∧ (∃ a c, v = .slice a (encS s g).length c) ∧ Chg (fun b => b = p) h h' ∧ ∀ b, ob v b → h.size ≤ b := by
  refine fn_of 21 Tryz.func23 rfl (by kernel_rfl) rfl (by simp) ?_
  have hbl := bodyS_len hs.2 hg
  have hel : (encS s g).length ≤ 1000 := by
    have ul := uvar_10 (show (bodyS s g).length < 18446744073709551616 by omega)
    unfold encS Crc.sealB Crc.bytes4
    simp only [List.length_append, List.length_cons, List.length_nil]
    omega
  refine cw_seq (cw_go rfl ?_)
  intro h1 n1
  conv => whnf
  have y1 : Blk h1 h.size (frC 1 1 s g) 82 := n1.blk
  have z1 := n1.size
  refine cw_seq (cw_go rfl ?_)
  conv => whnf
  refine ⟨_, by rw [frC_length hg]; rfl, y1.all, ?_⟩
  conv => whnf
  refine ⟨_, rfl, _, rencode_fn s hs hg h1, ?_⟩
  rintro _ h2 ⟨e, rfl, o2, x2, f2⟩
  obtain ⟨ea, ec, hee, _⟩ := Vm.Src.form (OB.r o2)
  subst hee
  have x02 := n1.ext.trans x2
  have z2 := x2.size
  conv => whnf
  refine cw_go rfl ?_
  conv => whnf
  refine ⟨_, (x02.blk W).rd (o := 32) rfl, ?_⟩
  conv => whnf
  refine ⟨_, rfl, _, append_bytes (ty := 33) (OB.nil h2) (OB.r (OB.nil h2)) (by simp), ?_⟩
  rintro u h3 ⟨o3, c3, f3⟩
  have x3 : ExtH h2 h3 := c3.ext (fun b hb => (ob_nil hb).elim)
  have fu : ∀ b, ob u b → h2.size ≤ b := fun b hb => (f3 b hb).elim (fun e => (ob_nil e).elim) (fun e => e)
  conv => whnf
  refine ⟨_, rfl, _, append_bytes (ty := 33) o3 (OB.r (OwnS.more o2 x3)) (by simp; omega), ?_⟩
  rintro w h4 ⟨o4, c4, f4⟩
  rw [List.nil_append, List.nil_append] at o4
  have x4 := ext_of_chg x3 c4 fu
  obtain ⟨wa, wc, hwe, _⟩ := Vm.Src.form (OB.r o4)
  subst hwe
  have W4 := (x02.trans x4).blk W
  conv => whnf
  refine ⟨_, _, W4, by show 32 < 34; decide, ?_⟩
  intro h5 w5
  replace w5 := w5.cast (l' := rW t m s0 n0 (.slice wa (encS s g).length wc)) rfl
  have z3 := x3.size
  have z4 := x4.size
  have z5 := w5.size
  have lp := W.lt
  have fw : ∀ b, ob (.slice wa (encS s g).length wc) b → h.size ≤ b := fun b hb => (f4 b hb).elim (fun e => by have := fu b e; omega) (fun e => by omega)
  refine ⟨_, w5.new, OwnS.keep o4 w5.chg (fun b hb e => by have := fw b hb; omega), ⟨_, _, rfl⟩, ⟨by omega, fun b hb hn => ?_⟩, fw⟩
  rw [w5.block b hn, x4.block b (by omega), x2.block b (by omega), n1.block b hb]
theorem rtnew_no {t : Tl} (hm : mayS t = false) (h : Heap) : Fx Tryz.prog 7 #[.agg (tlC t).toArray] h fun u h' => u = .tuple #[.agg (rW tz 0 0 0 (.slice none 0 0)).toArray, .int .i64 250] ∧ ExtH h h' := by
  refine fn_of 32 Tryz.func7 rfl (by kernel_rfl) rfl (by simp) ?_
  refine cw_seq (cw_go rfl ?_)
  intro h1 n1
  conv => whnf
  have y1 : Blk h1 h.size (tlC t) 24 := n1.blk
  intro h2 n2
  conv => whnf
  have y2 : Blk h2 h1.size (rW tz 0 0 0 (.slice none 0 0)) 49 := n2.blk
  have y12 := n2.ext.blk y1
  have z1 := n1.size
  have z2 := n2.size
  refine cw_seq (cw_seq (cw_go rfl ?_))
  conv => whnf
  refine ⟨_, rfl, y12.all, ?_⟩
  conv => whnf
  refine ⟨_, rfl, _, rmay_fn t h2, ?_⟩
  rw [hm]
  rintro _ h3 ⟨rfl, x3⟩
  conv => whnf
  refine cw_true rfl ?_
  refine cw_seq (cw_go rfl ?_)
  conv => whnf
  refine ⟨_, rfl, (rW tz 0 0 0 (.slice none 0 0)).toArray, fun w => by kernel_rfl, ?_⟩
  conv => whnf
  conv => whnf
  refine ⟨_, _, x3.blk y2, ⟨by show 34 ≤ 34; decide, rfl, by simp [rW, tlC, stC, coC, Value.oneCell']⟩, ?_⟩
  intro h4 w4
  replace w4 := w4.cast (l' := rW tz 0 0 0 (.slice none 0 0)) rfl
  have z3 := x3.size
  have z4 := w4.size
  exact cw_ret ⟨_, rfl, w4.new.all, rfl, ⟨by omega, fun b hb => by rw [w4.block b (by omega), x3.block b (by omega), n2.block b (by omega), n1.block b hb]⟩⟩
theorem rtnew_fn {t : Tl} (hm : mayS t = true) {h : Heap} (T : Tab h) : Fx Tryz.prog 7 #[.agg (tlC t).toArray] h fun u h' => ∃ v, u = .tuple #[.agg (rW t 2097152 t.s t.m v).toArray, .int .i64 0] ∧ OB h' v (saidS t) ∧ (∃ a c, v = .slice a (saidS t).length c) ∧ ExtH h h' ∧ ∀ b, ob v b → h.size ≤ b := by
  refine fn_of 32 Tryz.func7 rfl (by kernel_rfl) rfl (by simp) ?_
  obtain ⟨hs, hn, hr⟩ := may_in hm
  refine cw_seq (cw_go rfl ?_)
  intro h1 n1
  conv => whnf
  have y1 : Blk h1 h.size (tlC t) 24 := n1.blk
  intro h2 n2
  conv => whnf
  have y2 : Blk h2 h1.size (rW tz 0 0 0 (.slice none 0 0)) 49 := n2.blk
  have y12 := n2.ext.blk y1
  have x2 := n1.ext.trans n2.ext
  have z1 := n1.size
  have z2 := n2.size
  refine cw_seq (cw_seq (cw_go rfl ?_))
  conv => whnf
  refine ⟨_, rfl, y12.all, ?_⟩
  conv => whnf
  refine ⟨_, rfl, _, rmay_fn t h2, ?_⟩
  rw [hm]
  rintro _ h3 ⟨rfl, x3⟩
  have y3 := x3.blk y12
  have yr3 := x3.blk y2
  conv => whnf
  refine cw_false rfl (cw_skip ?_)
  refine cw_seq (cw_go rfl ?_)
  conv => whnf
  refine ⟨_, rfl, y3.all, ?_⟩
  conv => whnf
  refine ⟨_, rfl, (rW t 0 0 0 (.slice none 0 0)).toArray, fun w => by kernel_rfl, ?_⟩
  conv => whnf
  intro h4 n4
  conv => whnf
  have y4 : Blk h4 h3.size (rW tz 0 0 0 (.slice none 0 0)) 49 := n4.blk
  refine ⟨_, _, y4, ⟨by show 34 ≤ 34; decide, rfl, by simp [rW, tlC, stC, coC, Value.oneCell']⟩, ?_⟩
  intro h5 w5
  replace w5 := w5.cast (l' := rW t 0 0 0 (.slice none 0 0)) rfl
  have z3 := x3.size
  have z4 := n4.size
  have z5 := w5.size
  have x35 : ExtH h3 h5 := ⟨by omega, fun b hb => by rw [w5.block b (by omega), n4.block b hb]⟩
  conv => whnf
  refine cw_seq (cw_go rfl ?_)
  conv => whnf
  refine ⟨_, rfl, _, rsnew_fn h5, ?_⟩
  rintro _ h6 ⟨rfl, x6⟩
  conv => whnf
  refine ⟨_, _, x6.blk w5.new, ⟨by show 3 + 7 ≤ 34; decide, rfl, by simp [stC, Value.oneCell']⟩, ?_⟩
  intro h7 w7
  replace w7 := w7.cast (l' := rW t 2097152 0 0 (.slice none 0 0)) rfl
  have z6 := x6.size
  have z7 := w7.size
  have x37 : ExtH h3 h7 := ⟨by omega, fun b hb => by rw [w7.block b (by omega), x6.block b (by omega), x35.block b hb]⟩
  have y7 := x37.blk y3
  conv => whnf
  refine cw_seq (cw_go rfl ?_)
  conv => whnf
  refine ⟨_, y7.rd (o := 0) rfl, ?_⟩
  conv => whnf
  refine ⟨_, y7.rd (o := 1) rfl, ?_⟩
  conv => whnf
  refine ⟨_, rfl, _, rcnew_fn t.s t.m hs hn h7, ?_⟩
  rintro _ h8 ⟨rfl, x8⟩
  conv => whnf
  refine ⟨_, _, x8.blk w7.new, ⟨by show 13 + 19 ≤ 34; decide, rfl, by simp [coC, Value.oneCell']⟩, ?_⟩
  intro h9 w9
  replace w9 := w9.cast (l' := rW t 2097152 t.s t.m (.slice none 0 0)) rfl
  have z8 := x8.size
  have z9 := w9.size
  have x39 : ExtH h3 h9 := ⟨by omega, fun b hb => by rw [w9.block b (by omega), x8.block b (by omega), x37.block b hb]⟩
  have y9 := x39.blk y3
  have yr9 := x39.blk yr3
  have W9 := w9.new
  have T9 := T.more ((x2.trans x3).trans x39)
  have es : t.s = ((t.s.toNat : Nat) : Int) := by omega
  conv => whnf
  refine cw_seq (cw_dgo (by kernel_rfl) 5 (List.range 5) (by kernel_rfl) rfl ?_)
  conv => whnf
  refine ⟨_, y9.rd (o := 0) rfl, ?_⟩
  conv => whnf
  refine ⟨_, rfl, y9.all, ?_⟩
  conv => whnf
  refine ⟨_, rfl, _, (fun g e => rkey_fn (may_64 hm) (T9.more e)), ?_⟩
  conv => whnf
  refine ⟨_, rfl, (frC 1 1 t.s (keyS t)).toArray, build_4 t.s (keyS t) (keyS_length t), ?_⟩
  conv => whnf
  intro h10 e10
  conv => whnf
  rw [es]
  refine ⟨_, rfl, _, rsay_fn (e10.blk W9) t.s.toNat ⟨by omega, by omega⟩ (keyS_length t), ?_⟩
  rw [← es]
  rintro u h11 ⟨v, W11, o11, ⟨a, c, hv⟩, c11, f11⟩
  have z10 := e10.size
  have z11 := c11.size
  have lr := yr9.lt
  have x11 : ExtH h3 h11 := ⟨by omega, fun b hb => by rw [c11.block b (by omega) (by omega), e10.block b (by omega), x39.block b hb]⟩
  have yr11 := x11.blk yr3
  subst hv
  conv => whnf
  refine cw_seq (cw_go rfl ?_)
  conv => whnf
  refine ⟨_, rfl, W11.all, ?_⟩
  conv => whnf
  refine ⟨_, _, yr11, ⟨by show 34 ≤ 34; decide, rfl, by simp [rW, tlC, stC, coC, Value.oneCell']⟩, ?_⟩
  intro h12 w12
  replace w12 := w12.cast (l' := rW t 2097152 t.s t.m (.slice a (saidS t).length c)) rfl
  have z12 := w12.size
  have z23 := x2.size
  refine cw_ret ⟨_, rfl, w12.new.all, _, rfl, OwnS.keep o11 w12.chg (fun b hb e => by have := f11 b hb; omega), ⟨_, _, rfl⟩, ⟨by omega, fun b hb => ?_⟩, fun b hb => by have := f11 b hb; omega⟩
  rw [w12.block b (by omega), x11.block b (by omega), x3.block b (by omega), x2.block b hb]
end Go.Proofs.YtgecapllodgdeaaGreatDoor
