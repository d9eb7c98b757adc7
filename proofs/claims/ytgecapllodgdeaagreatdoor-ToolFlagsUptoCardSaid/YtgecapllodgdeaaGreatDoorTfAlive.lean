/-
  bytes.Equal; the law's alive.
-/
import Derived.Test.YtgecapllodgdeaaGreatDoorTfRNew
namespace Go.Proofs.YtgecapllodgdeaaGreatDoor
open Go Vm
set_option maxRecDepth 100000
set_option linter.unusedVariables false
set_option linter.unusedSimpArgs false
theorem bequal_fn {h : Heap} {u v : Value} {l m : List UInt8} (hu : RB h u l) (hv : RB h v m) : Fx Tryz.prog 30 #[u, v] h fun r h' => r = .bool (decide (l = m)) ∧ h' = h := by
  refine fn_of 10 Tryz.func30 rfl (by kernel_rfl) rfl (by simp) ?_
  refine cw_seq (cw_go rfl ?_)
  conv => whnf
  refine cw_seq (cw_go rfl ?_)
  conv => whnf
  refine ⟨_, conv_str (dst := 9) (e := 5) rfl rfl rfl hu, ?_⟩
  rintro _ h1 ⟨rfl, e⟩
  replace e := e.symm
  subst e
  conv => whnf
  refine ⟨_, conv_str (dst := 9) (e := 5) rfl rfl rfl hv, ?_⟩
  rintro _ h1 ⟨rfl, e⟩
  replace e := e.symm
  subst e
  conv => whnf
  refine say_seq (fun h1 => ?_) (fun h1 => ?_)
  · exact cw_ret ⟨by rw [decide_eq_true h1]; rfl, rfl⟩
  · exact cw_ret ⟨by rw [decide_eq_false h1]; rfl, rfl⟩
theorem saidS_len {t : Tl} (hm : mayS t = true) : 1 ≤ (saidS t).length ∧ (saidS t).length ≤ 999 := by
  obtain ⟨hs, hn, hr⟩ := may_in hm
  have hbl := bodyS_len (s := t.s.toNat) (by omega) (keyS_length t)
  have ul := uvar_10 (show (bodyS t.s.toNat (keyS t)).length < 18446744073709551616 by omega)
  unfold saidS encS Crc.sealB Crc.bytes4
  simp only [List.length_append, List.length_cons, List.length_nil]
  omega
def ta : Tl := ⟨1, 1, 99⟩
theorem store_rw {h : Heap} {b : Nat} {l0 : List Value} {t : Tl} {m s n : Int} {a : Option Addr} {k c : Nat} {K : Heap → Prop} (hb : Blk h b l0 49) (h0 : l0.length = 34) (H : ∀ h', Wrote h h' b (rW t m s n (.slice a k c)) 49 → K h') :
    ∃ l ty, Blk h b l ty ∧ (0 + (rW t m s n (.slice a k c)).toArray.size ≤ l.length ∧ (rW t m s n (.slice a k c)).toArray.size = 34 ∧ ∀ x ∈ (rW t m s n (.slice a k c)).toArray.toList, x.oneCell' = true) ∧ ∀ h', Wrote h h' b (splice l 0 (rW t m s n (.slice a k c)).toArray.toList) ty → K h' :=
  ⟨_, _, hb, ⟨by show 34 ≤ _; omega, rfl, by simp [rW, tlC, stC, coC, Value.oneCell']⟩, fun h' w => H h' (w.cast (by
    show l0.take 0 ++ rW t m s n (.slice a k c) ++ l0.drop (0 + 34) = _
    rw [List.drop_of_length_le (by omega)]
    simp))⟩
theorem alive_fn {h : Heap} (T : Tab h) : Fx Tryz.prog 10 #[] h fun u h' => u = .bool true ∧ ExtH h h' := by
  refine fn_of 40 Tryz.func10 rfl (by kernel_rfl) rfl (by simp) ?_
  have hm : mayS ta = true := by decide
  have hlen := saidS_len hm
  refine cw_seq (cw_go rfl ?_)
  conv => whnf
  refine cw_seq (cw_go rfl ?_)
  conv => whnf
  refine ⟨_, rfl, (tlC ta).toArray, fun w => by kernel_rfl, ?_⟩
  conv => whnf
  conv => whnf
  refine ⟨_, rfl, _, tnew_fn hm h, ?_⟩
  rintro _ h1 ⟨p, c, d, v, rfl, W, x1, hp, hv⟩
  conv => whnf
  refine cw_seq (cw_go rfl ?_)
  conv => whnf
  refine ⟨_, rfl, (tlC ta).toArray, fun w => by kernel_rfl, ?_⟩
  conv => whnf
  conv => whnf
  refine ⟨_, rfl, _, rtnew_fn hm (T.more x1), ?_⟩
  rintro _ h2 ⟨rv, rfl, o2, ⟨ra, rc, hre⟩, x2, f2⟩
  subst hre
  conv => whnf
  intro h3 n3
  have y3 : Blk h3 h2.size (rW tz 0 0 0 (.slice none 0 0)) 49 := n3.blk
  conv => whnf
  refine store_rw y3 rfl ?_
  intro h4 w4
  have y4 := w4.new
  have z2 := x2.size
  have z3 := n3.size
  have z4 := w4.size
  have x24 : ExtH h2 h4 := ⟨by omega, fun b hb => by rw [w4.block b (by omega), n3.block b hb]⟩
  have W4 := (W.more x2).more x24
  have o4 := OwnS.more o2 x24
  have x14 := x2.trans x24
  have lp := W.blk.lt
  have z14 := x14.size
  have z1 := x1.size
  have hpr : p ≠ h2.size := by omega
  have ho := W.out
  have hob : ∀ b, ob v b → b < h1.size := fun b hb => OwnS.lt ho hb
  conv => whnf
  refine cw_seq (cw_keeps (by kernel_rfl) 25 (fun b => b ≠ p ∧ ¬ ob v b) (.q 0 (.q 1 (.q 2 (.q 3 (.q 4 (.q 5 (.q 6 (.q 7 (.i1 8 (.q 9 (.q 10 (.q 11 (.q 13 (.q 14 (.q 15 (.i1 12 (.q 16 (.q 17 (.q 18 (.q 19 (.q 21 (.q 22 (.i1 20 (.i1 23 (.q 24 .leaf))))))))))))))))))))))))) (by kernel_rfl) rfl ?_)
  have kp : ∀ {h' : Heap}, ExtP (fun b => b ≠ p ∧ ¬ ob v b) h4 h' → Blk h' h2.size (rW ta 2097152 ta.s ta.m (.slice ra (saidS ta).length rc)) 49 := fun e =>
    (e.block _ ⟨fun e => hpr e.symm, fun e => by have := hob _ e; omega⟩ (by omega)).trans y4
  conv => whnf
  refine ⟨_, fun h' e => rfl, ?_⟩
  conv => whnf
  refine ⟨.bool true, fun h' e => rfl, ?_⟩
  conv => whnf
  refine ⟨.bool true, fun h' e => rfl, ?_⟩
  conv => whnf
  refine ⟨_, fun h' e => rfl, ?_⟩
  conv => whnf
  refine ⟨.bool true, fun h' e => ⟨.bool true, fun w => by kernel_rfl, rfl⟩, ?_⟩
  conv => whnf
  refine ⟨.bool true, fun h' e => rfl, ?_⟩
  conv => whnf
  refine ⟨.bool true, fun h' e => rfl, ?_⟩
  conv => whnf
  refine ⟨pp p, fun h' e => rfl, ?_⟩
  conv => whnf
  intro g1 e1
  conv => whnf
  refine ⟨_, rfl, _, takes_fn (W4.more e1) (by decide), ?_⟩
  rintro _ g2 ⟨rfl, q2⟩
  refine ⟨q2.toP _, ?_⟩
  intro g3 e3
  conv => whnf
  refine ⟨.bool true, fun h' e => rfl, ?_⟩
  conv => whnf
  refine ⟨.bool true, fun h' e => rfl, ?_⟩
  conv => whnf
  refine ⟨pp p, fun h' e => rfl, ?_⟩
  conv => whnf
  refine ⟨_, fun h' e => rfl, ?_⟩
  conv => whnf
  refine ⟨.slice ra (saidS ta).length rc, fun h' e => ⟨_, (kp e).rd (o := 32) rfl, rfl⟩, ?_⟩
  conv => whnf
  refine ⟨.int .i64 ((saidS ta).length : Int), fun h' e => rfl, ?_⟩
  conv => whnf
  intro g4 e4
  conv => whnf
  have W5 := W4.more ((e1.trans q2).trans (e3.trans e4))
  refine ⟨_, rfl, _, out_fn W5, ?_⟩
  rintro _ g5 ⟨rfl, q5⟩
  replace q5 := q5.symm
  subst q5
  refine ⟨ExtP.refl _ _, ?_⟩
  intro g6 e6
  conv => whnf
  refine ⟨.bool true, fun h' e => by show Value.bool (((saidS ta).length : Int) == ((saidS ta).length : Int)) = _; simp, ?_⟩
  conv => whnf
  refine ⟨.bool true, fun h' e => rfl, ?_⟩
  conv => whnf
  refine ⟨.bool true, fun h' e => rfl, ?_⟩
  conv => whnf
  refine ⟨pp p, fun h' e => rfl, ?_⟩
  conv => whnf
  refine ⟨_, fun h' e => rfl, ?_⟩
  conv => whnf
  refine ⟨.slice ra (saidS ta).length rc, fun h' e => ⟨_, (kp e).rd (o := 32) rfl, rfl⟩, ?_⟩
  conv => whnf
  intro g7 e7
  conv => whnf
  have W7 := W5.more (e6.trans e7)
  refine ⟨_, rfl, _, wtake_fn W7 hlen.1 hlen.2, ?_⟩
  rintro u g8 ⟨o8, c8⟩
  refine ⟨⟨c8.size, fun b hb hlt => c8.block b hlt (fun e => e.elim hb.1 hb.2)⟩, ?_⟩
  intro g9 e9
  conv => whnf
  intro g10 e10
  conv => whnf
  have x47 := ((e1.trans q2).trans (e3.trans e4)).trans (e6.trans e7)
  have o7 := OwnS.more o4 x47
  have o10 : OB g10 (.slice ra (saidS ta).length rc) (saidS ta) := OwnS.more (OwnS.keep o7 c8 (fun b hb e => by
    have := f2 b hb
    rcases e with e | e
    · omega
    · have := hob b e; omega)) (e9.trans e10)
  refine ⟨_, rfl, _, bequal_fn (OB.r (OwnS.more o8 (e9.trans e10))) (OB.r o10), ?_⟩
  rintro _ g11 ⟨rfl, q11⟩
  replace q11 := q11.symm
  subst q11
  refine ⟨ExtP.refl _ _, ?_⟩
  intro g12 e12
  rw [decide_eq_true rfl]
  conv => whnf
  refine ⟨.bool true, fun h' e => rfl, ?_⟩
  conv => whnf
  intro g13 e13
  conv => whnf
  have z47 := x47.size
  have z8 := c8.size
  have zz := ((e9.trans e10).trans (e12.trans e13)).size
  refine cw_ret ⟨rfl, ⟨by omega, fun b hb => ?_⟩⟩
  have xx := (e9.trans e10).trans (e12.trans e13)
  rw [xx.block b (by omega), c8.block b (by omega) (fun e => e.elim (fun e => by omega) (fun e => by have := hv b e; omega)), x47.block b (by omega), x14.block b (by omega), x1.block b hb]
end Go.Proofs.YtgecapllodgdeaaGreatDoor
