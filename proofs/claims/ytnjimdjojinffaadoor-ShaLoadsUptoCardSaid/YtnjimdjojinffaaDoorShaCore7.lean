/-
  The contract of the laws' awake.
-/
import Derived.Test.YtnjimdjojinffaaDoorShaCore6
import Derived.Test.YtnjimdjojinffaaDoorVmEq
namespace Go.Proofs.YtnjimdjojinffaaDoor
open Go Vm
set_option maxRecDepth 100000
theorem u8v_inj (l m : List UInt8) : (l.map (fun b => (b.toNat : Int)) = m.map (fun b => (b.toNat : Int))) ↔ l = m := by
  constructor
  · intro h
    refine List.map_inj_right ?_ |>.1 h
    intro a b hab
    exact UInt8.toNat_inj.1 (by exact_mod_cast hab)
  · rintro rfl; rfl
theorem map_u8v (l : List UInt8) : l.map u8v = (l.map (fun b => (b.toNat : Int))).map (Value.int .u8) := by
  rw [List.map_map]; rfl
theorem dig_eq (xo yo : Operand) (l m : List UInt8) (h1 : l.length = 32) (h2 : m.length = 32) (w : World) :
    (do eqGuard .eql 31 xo yo (.agg (l.map u8v).toArray) (.agg (m.map u8v).toArray); binOp .eql 31 (.agg (l.map u8v).toArray) (.agg (m.map u8v).toArray) : Sem Value).run Tryd.prog w = .ok (.bool (decide (l = m))) w := by
  rw [map_u8v, map_u8v, run_eq_ints (P := Tryd.prog) (t := 31) (e := 5) (n := 32) rfl rfl (by kernel_rfl) (i := Tryd.prog.types[5]) rfl (by kernel_rfl) (by kernel_rfl) xo yo _ _ (by simpa using h1) (by simpa using h2) w]
  simp only [u8v_inj]
theorem dig_ne (xo yo : Operand) (l m : List UInt8) (h1 : l.length = 32) (h2 : m.length = 32) (w : World) :
    (do eqGuard .neq 31 xo yo (.agg (l.map u8v).toArray) (.agg (m.map u8v).toArray); binOp .neq 31 (.agg (l.map u8v).toArray) (.agg (m.map u8v).toArray) : Sem Value).run Tryd.prog w = .ok (.bool (!decide (l = m))) w := by
  rw [map_u8v, map_u8v, run_ne_ints (P := Tryd.prog) (t := 31) (e := 5) (n := 32) rfl rfl (by kernel_rfl) (i := Tryd.prog.types[5]) rfl (by kernel_rfl) (by kernel_rfl) xo yo _ _ (by simpa using h1) (by simpa using h2) w]
  simp only [u8v_inj]
theorem RD.at {D : Nat → Prop} {h : Heap} {b n : Nat} {l : List UInt8} (hr : rdN h b 0 (l.map u8v)) (hl : l.length = n) (hm : n ≤ maxLen) (hb : D b) : RD D h (.slice (some ⟨b, 0, none⟩) n n) l := by
  subst hl
  exact ⟨⟨by simp, .inr ⟨_, _, rfl, Nat.le_refl _, hm, rdA_plain.2 hr⟩⟩, fun _ c hc => by rw [ob_slice] at hc; exact hc ▸ hb⟩
theorem RD.nil {D : Nat → Prop} {h : Heap} : RD D h (.slice none 0 0) [] := ⟨⟨by simp, .inl ⟨rfl, rfl⟩⟩, fun e => absurd rfl e⟩
theorem PD.empty {D : Nat → Prop} {h : Heap} : PD D h (.slice none 0 0) [] [] := ⟨⟨by simp, .inl ⟨rfl, rfl⟩⟩, fun e => absurd rfl e, fun i m hi => by simp at hi⟩
theorem PD.one {D : Nat → Prop} {h : Heap} {b : Nat} {v : Value} {m : List UInt8} {t : TypeId} (hr : Blk h b [v] t) (hb : D b) (hv : RD D h v m) : PD D h (.slice (some ⟨b, 0, none⟩) 1 1) [m] [v] := by
  refine ⟨⟨rfl, .inr ⟨_, 1, rfl, Nat.le_refl _, by decide, rdA_plain.2 hr.all⟩⟩, fun _ c hc => by rw [ob_slice] at hc; exact hc ▸ hb, ?_⟩
  intro i m' hi
  match i, hi with
  | 0, hi => simp at hi; exact ⟨v, rfl, hi ▸ hv⟩
theorem PD.two {D : Nat → Prop} {h : Heap} {b : Nat} {v w : Value} {m n : List UInt8} {t : TypeId} (hr : Blk h b [v, w] t) (hb : D b) (hv : RD D h v m) (hw : RD D h w n) : PD D h (.slice (some ⟨b, 0, none⟩) 2 2) [m, n] [v, w] := by
  refine ⟨⟨rfl, .inr ⟨_, 2, rfl, Nat.le_refl _, by decide, rdA_plain.2 hr.all⟩⟩, fun _ c hc => by rw [ob_slice] at hc; exact hc ▸ hb, ?_⟩
  intro i m' hi
  match i, hi with
  | 0, hi => simp at hi; exact ⟨v, rfl, hi ▸ hv⟩
  | 1, hi => simp at hi; exact ⟨w, rfl, hi ▸ hw⟩
theorem PD.three {D : Nat → Prop} {h : Heap} {b : Nat} {v w u : Value} {m n k : List UInt8} {t : TypeId} (hr : Blk h b [v, w, u] t) (hb : D b) (hv : RD D h v m) (hw : RD D h w n) (hu : RD D h u k) : PD D h (.slice (some ⟨b, 0, none⟩) 3 3) [m, n, k] [v, w, u] := by
  refine ⟨⟨rfl, .inr ⟨_, 3, rfl, Nat.le_refl _, by decide, rdA_plain.2 hr.all⟩⟩, fun _ c hc => by rw [ob_slice] at hc; exact hc ▸ hb, ?_⟩
  intro i m' hi
  match i, hi with
  | 0, hi => simp at hi; exact ⟨v, rfl, hi ▸ hv⟩
  | 1, hi => simp at hi; exact ⟨w, rfl, hi ▸ hw⟩
  | 2, hi => simp at hi; exact ⟨u, rfl, hi ▸ hu⟩
theorem Marked.chg {h h' : Heap} {b : Nat} {l : List Value} (m : Marked h h' b l) : Chg (fun c => c = b) h h' := ⟨by rw [m.size]; exact Nat.le_refl _, fun c _ hc => m.block c hc⟩
theorem awake_fn (h : Heap) : Fx Tryd.prog 12 #[] h fun u h' => u = .bool true ∧ ExtH h h' := by
  refine fn_of 34 Tryd.func12 rfl (by kernel_rfl) rfl (by simp) ?_
  refine cw_seq (cw_region rfl ?_)
  refine cw_seq (cw_region rfl ?_)
  conv => whnf
  refine ⟨_, rfl, _, new_fn h, ?_⟩
  rintro _ h1 ⟨p, rfl, hp, H1, x1⟩
  conv => whnf
  refine cw_seq (cw_seq (cw_region rfl ?_))
  conv => whnf
  refine ⟨.bool false, fun w => by kernel_rfl, ?_⟩
  conv => whnf
  refine ⟨_, rfl, #[u8v 97], 5, fun w => by kernel_rfl, ?_⟩
  intro h2 n2
  conv => whnf
  refine ⟨_, conv_bytes (o := 0) (n := 1) (c := 1) rfl rfl n2.blk, ?_⟩
  rintro _ h3 ⟨rfl, m3⟩
  conv => whnf
  refine ⟨_, rfl, #[u8v 98, u8v 99], 5, fun w => by kernel_rfl, ?_⟩
  intro h4 n4
  conv => whnf
  refine ⟨_, conv_bytes (o := 0) (n := 2) (c := 2) rfl rfl n4.blk, ?_⟩
  rintro _ h5 ⟨rfl, m5⟩
  conv => whnf
  refine ⟨_, rfl, #[.slice (some ⟨h1.size, 0, none⟩) 1 1, .slice (some ⟨h3.size, 0, none⟩) 2 2], 40, fun w => by kernel_rfl, ?_⟩
  intro h6 n6
  have z1 := x1.size; have z2 := n2.size; have z3 := m3.size; have z4 := n4.size; have z5 := m5.size; have z6 := n6.size
  have x6 : ExtH h1 h6 := ⟨by omega, fun b hb => by rw [n6.block b (by omega), m5.block b (by omega), n4.block b (by omega), m3.block b (by omega), n2.block b hb]⟩
  have hp1 := H1.blk.lt
  have r3 : rdN h6 h1.size 0 ([97].map u8v) := fun j v hj => n6.ext.rd ((m5.chg.rd (n4.ext.rd (m3.rd j v hj)) (by simp only []; omega)))
  have r5 : rdN h6 h3.size 0 ([98, 99].map u8v) := fun j v hj => n6.ext.rd (m5.rd j v hj)
  have hPD : PD (fun b => h1.size ≤ b ∧ b < h6.size) h6 (.slice (some ⟨h5.size, 0, none⟩) 2 2) [[97], [98, 99]] _ :=
    PD.two n6.blk ⟨by omega, by omega⟩ (RD.at r3 rfl (by decide) ⟨by omega, by omega⟩) (RD.at r5 rfl (by decide) ⟨by omega, by omega⟩)
  conv => whnf
  refine ⟨_, rfl, _, write_fn (H1.more x6) hPD (fun b hb => ⟨hb.2, by omega, ob_nil⟩) (by decide) (by decide) (by decide), ?_⟩
  rintro _ h7 ⟨rfl, v7, H7, c7, f7⟩
  refine cw_false rfl (cw_skip ?_)
  refine cw_seq (cw_region rfl ?_)
  conv => whnf
  refine ⟨_, rfl, (Sha.abc.map u8v).toArray, fun w => by kernel_rfl, ?_⟩
  conv => whnf
  intro h8 n8
  conv => whnf
  refine ⟨_, _, n8.blk, ⟨by decide, by rfl, by decide⟩, ?_⟩
  intro h9 w9
  replace w9 := w9.cast (l' := Sha.abc.map u8v) (by kernel_rfl)
  have z7 := c7.size; have z8 := n8.size; have z9 := w9.size
  have f7' : ∀ b, ob v7 b → h6.size ≤ b := fun b hb => by
    rcases f7 b hb with e | e
    · exact (ob_nil e).elim
    · exact e
  have H9 := (H7.more n8.ext).keep w9.chg (by omega) (fun b hb => by have := OwnS.lt H7.own hb; omega)
  have q9 : FxQ Tryd.prog 23 #[.pointer (some ⟨p, 0, none⟩)] h9 (.agg (Sha.abc.map u8v).toArray) := by
    rw [← show Sha.sum (Sha.feed Sha.H0 [97, 98, 99]) (Sha.rest [97, 98, 99]) 3 = Sha.abc from Sha.abc_digest]
    exact sum_q H9 (by decide) (by decide)
  have x9 : ExtH h h9 := ⟨by omega, fun b hb => by
    rw [w9.block b (by omega), n8.block b (by omega), c7.block b (by omega) (fun e => by
      rcases e with e | e
      · omega
      · exact ob_nil e), x6.block b (by omega), x1.block b hb]⟩
  generalize h7.size = wb at *
  generalize Sha.feed Sha.H0 _ = s9 at *
  generalize Sha.rest _ = r9 at *
  clear n8 c7 f7 H7 hPD r3 r5 n6 m5 n4 m3 n2 z2 z3 z4 z5 z6
  refine cw_seq ?_
  refine cw_drawn (by kernel_rfl) 10 (fun i => i == 5 || i == 6 || i == 7 || i == 8) [0, 1, 2, 3, 4, 9, 5, 6, 7, 8] (by kernel_rfl) rfl ?_
  conv => whnf
  refine ⟨_, rfl, _, q9, ?_⟩
  conv => whnf
  refine ⟨_, by rfl, w9.new.all, ?_⟩
  conv => whnf
  refine ⟨.bool true, fun w => (dig_eq _ _ _ _ rfl rfl w).trans (by simp), ?_⟩
  conv => whnf
  refine ⟨_, by rfl, w9.new.all, ?_⟩
  conv => whnf
  intro h10 y10
  refine ⟨_, rfl, #[u8v 97, u8v 98, u8v 99], 5, fun w => by kernel_rfl, ?_⟩
  intro h11 n11
  refine ⟨n11.ext.toU _, ?_⟩
  intro h12 y12
  conv => whnf
  intro h13 y13
  have b13 := y13.blk (y12.blk n11.blk)
  refine ⟨_, conv_bytes (o := 0) (n := 3) (c := 3) rfl rfl b13, ?_⟩
  rintro _ h14 ⟨rfl, m14⟩
  have a10 := y10.size; have a11 := n11.size; have a12 := y12.size; have a13 := y13.size; have a14 := m14.size
  refine ⟨⟨by omega, fun b hb _ => m14.block b (by omega)⟩, ?_⟩
  intro h15 y15
  conv => whnf
  intro h16 y16
  refine ⟨_, rfl, #[.slice (some ⟨h10.size, 0, none⟩) 3 3], 40, fun w => by kernel_rfl, ?_⟩
  intro h17 n17
  refine ⟨n17.ext.toU _, ?_⟩
  intro h18 y18
  conv => whnf
  intro h19 y19
  have a15 := y15.size; have a16 := y16.size; have a17 := n17.size; have a18 := y18.size; have a19 := y19.size
  have r19 : rdN h19 h10.size 0 ([97, 98, 99].map u8v) := fun j v hj => y19.rd (y18.rd (n17.ext.rd (y16.rd (y15.rd (m14.rd j v hj)))))
  have hPD : PD (fun b => b < h19.size) h19 (.slice (some ⟨h16.size, 0, none⟩) 1 1) [[97, 98, 99]] _ :=
    PD.one (y19.blk (y18.blk n17.blk)) (by omega) (RD.at r19 rfl (by decide) (by omega))
  refine ⟨_, rfl, _, of_fn hPD (fun b hb => hb) (by decide), ?_⟩
  rintro _ h20 ⟨rfl, x20⟩
  refine ⟨x20.toU _, ?_⟩
  intro h21 y21
  conv => whnf
  intro h22 y22
  conv => whnf
  refine ⟨.bool true, fun w => (dig_eq _ _ _ _ (by rfl) rfl w).trans (congrArg (fun b => Result.ok (Value.bool b) w) (decide_eq_true (show Sha.digest [97, 98, 99] = Sha.abc from Sha.abc_digest))), ?_⟩
  conv => whnf
  have x22 : ExtH h9 h22 := by
    have a20 := x20.size; have a21 := y21.size; have a22 := y22.size
    exact ⟨by omega, fun b hb => by rw [y22.block b (by omega), y21.block b (by omega), x20.block b (by omega), y19.block b (by omega), y18.block b (by omega), n17.block b (by omega), y16.block b (by omega), y15.block b (by omega), m14.block b (by omega), y13.block b (by omega), y12.block b (by omega), n11.block b (by omega), y10.block b hb]⟩
  refine ⟨_, rfl, _, len_fn (H9.more x22), ?_⟩
  rintro _ h23 ⟨rfl, e⟩
  subst h23
  refine cw_ret ?_
  exact ⟨rfl, x9.trans x22⟩
end Go.Proofs.YtnjimdjojinffaaDoor
