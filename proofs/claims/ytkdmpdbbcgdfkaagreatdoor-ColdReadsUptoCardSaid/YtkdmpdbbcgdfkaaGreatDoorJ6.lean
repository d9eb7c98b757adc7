/-
  The contracts of package sha's Pad, New, ready, take, Clone, Sum.
  The contract of package sha's take.
  The contracts of package sha's Clone and Sum.
  The contracts of package sha's Write, Len, Reset, Of, State.
  The contracts of package sha's Of, Reset; constant bytes; the laws' awake.
-/
import Derived.Test.YtkdmpdbbcgdfkaaGreatDoorJ5
namespace Go.Proofs.YtkdmpdbbcgdfkaaGreatDoor
open Go Vm
set_option maxRecDepth 100000
theorem u64_in (i : Int) (n : Nat) (e : i = n) (h : n < 18446744073709551616) : IntKind.u64.wrap i = (n : Int) := by
  subst e; simp [IntKind.wrap, IntKind.bits, IntKind.signed]; omega
theorem pad_no (n : Nat) (hn : 2305843009213693951 < n) (h : Heap) :
    Fx Tryz.prog 227 #[.int .u64 (n : Int)] h fun v' h' => v' = .tuple #[.slice none 0 0, .int .i64 21] ∧ h' = h := by
  refine fn_of 20 Tryz.func227 rfl (by kernel_rfl) rfl (by simp) ?_
  refine cw_seq (cw_region rfl ?_)
  refine cw_seq (cw_seq (cw_region rfl ?_))
  refine cw_yes rfl (by omega) ?_
  refine cw_seq (cw_region rfl ?_)
  exact cw_ret ⟨rfl, rfl⟩
theorem pad_yes (n : Nat) (hn : n ≤ 2305843009213693951) (h : Heap) :
    Fx Tryz.prog 227 #[.int .u64 (n : Int)] h fun v' h' => ∃ v, v' = .tuple #[v, .int .i64 0] ∧ OB h' v (Sha.pad n) ∧ ExtH h h' ∧ ∀ b, ob v b → h.size ≤ b := by
  refine fn_of 20 Tryz.func227 rfl (by kernel_rfl) rfl (by simp) ?_
  refine cw_seq (cw_region rfl ?_)
  refine cw_seq (cw_seq (cw_region rfl ?_))
  refine cw_no rfl (by omega) (cw_skip ?_)
  refine cw_seq (cw_region rfl ?_)
  conv => whnf
  refine ⟨by decide, ?_⟩
  conv => whnf
  refine ⟨by decide, ?_⟩
  conv => whnf
  have r1 : (n : Int).tmod 64 = ((n % 64 : Nat) : Int) := by rw [Int.tmod_eq_emod_of_nonneg (by omega)]; omega
  have r2 : IntKind.u64.wrap (119 - (n : Int).tmod 64) = ((119 - n % 64 : Nat) : Int) := u64_in _ _ (by rw [r1]; omega) (by omega)
  have r3 : (IntKind.u64.wrap (119 - (n : Int).tmod 64)).tmod 64 = ((Sha.zeros n : Nat) : Int) := by rw [r2, Int.tmod_eq_emod_of_nonneg (by omega)]; unfold Sha.zeros; omega
  have hz : Sha.zeros n < 64 := by unfold Sha.zeros; omega
  have r4 : IntKind.u64.wrap (1 + (IntKind.u64.wrap (119 - (n : Int).tmod 64)).tmod 64) = ((1 + Sha.zeros n : Nat) : Int) := u64_in _ _ (by rw [r3]; omega) (by omega)
  rw [r4]
  refine ⟨⟨by omega, by omega, by decide, by decide⟩, ?_⟩
  intro h1 n1
  have b1 : Blk h1 h.size (List.replicate 72 (u8v 0)) 5 := made8 (n := 72) n1.blk
  refine cw_seq (cw_region rfl ?_)
  conv => whnf
  refine ⟨⟨by decide, by show (0 : Int) < (((((1 + Sha.zeros n : Nat) : Int)).toNat : Nat) : Int); omega⟩, ?_⟩
  conv => whnf
  refine ⟨_, _, b1, by simp, ?_⟩
  intro h2 w2
  have e8 := u64_in (8 * (n : Int)) (8 * n) (by omega) (by omega)
  have o2 : OB h2 (.slice (some ⟨h.size, 0, none⟩) (1 + Sha.zeros n) 72) (128 :: List.replicate (Sha.zeros n) 0) := by
    refine ⟨by simp, .inr ⟨h.size, 72, List.replicate (71 - Sha.zeros n) (u8v 0), by simp; omega, ?_, by simp; omega, by simp [maxLen], by simp; omega⟩⟩
    have := w2.new
    have e : (List.replicate 72 (u8v 0)).set (0 + Int.toNat 0) (Value.int .u8 128) = (128 :: List.replicate (Sha.zeros n) (0 : UInt8)).map u8v ++ List.replicate (71 - Sha.zeros n) (u8v 0) := by
      simp only [List.map_cons, List.map_replicate, List.cons_append, List.replicate_append_replicate]
      rw [show Sha.zeros n + (71 - Sha.zeros n) = 71 by omega]
      rfl
    rw [← e]
    exact this
  refine cw_seq (cw_region rfl ?_)
  conv => whnf
  rw [e8]
  refine ⟨_, rfl, _, eight_fn (8 * n) h2, ?_⟩
  rintro v3 h3 ⟨o3, x3, f3⟩
  conv => whnf
  have o2' := OwnS.more o2 x3
  refine ⟨_, rfl, _, append_bytes (ty := 46) (v := .slice (some ⟨h.size, 0, none⟩) (1 + Sha.zeros n) 72) o2' o3.r (by simp [Sha.eight]; omega), ?_⟩
  rintro v4 h4 ⟨o4, c4, f4⟩
  refine cw_ret ?_
  refine ⟨v4, rfl, ?_, ?_, fun b hb => ?_⟩
  · simpa [Sha.pad] using o4
  · have z1 := n1.size; have z2 := w2.size; have z3 := x3.size; have z4 := c4.size
    exact ⟨by omega, fun b hb => by rw [c4.block b (by omega) (by rw [ob_slice]; omega), x3.block b (by omega), w2.block b (by omega), n1.block b hb]⟩
  · have z1 := n1.size; have z2 := w2.size; have z3 := x3.size
    rcases f4 b hb with h5 | h5
    · rw [ob_slice] at h5; omega
    · omega
/-- a hash's struct -/
def hashC (s : Sha.S8) (v : Value) (n : Nat) : List Value := [.bool true, u32v s.a, u32v s.b, u32v s.c, u32v s.d, u32v s.e, u32v s.f, u32v s.g, u32v s.h, v, .int .u64 (n : Int)]
structure HashAt (h : Heap) (p : Nat) (v : Value) (s : Sha.S8) (l : List UInt8) (n : Nat) : Prop where
  blk : Blk h p (hashC s v n) 373
  own : OB h v l
theorem HashAt.ne {h : Heap} {p : Nat} {v : Value} {s : Sha.S8} {l : List UInt8} {n : Nat} (H : HashAt h p v s l n) : ¬ ob v p := OwnS.ne H.own H.blk (by decide)
theorem HashAt.keep {S : Nat → Prop} {h h' : Heap} {p : Nat} {v : Value} {s : Sha.S8} {l : List UInt8} {n : Nat} (H : HashAt h p v s l n) (c : Chg S h h') (hp : ¬ S p) (hv : ∀ b, ob v b → ¬ S b) : HashAt h' p v s l n :=
  ⟨c.blk H.blk hp, OwnS.keep H.own c hv⟩
theorem HashAt.more {h h' : Heap} {p : Nat} {v : Value} {s : Sha.S8} {l : List UInt8} {n : Nat} (H : HashAt h p v s l n) (c : ExtH h h') : HashAt h' p v s l n :=
  ⟨c.blk H.blk, OwnS.more H.own c⟩
theorem new_fn (h : Heap) : Fx Tryz.prog 166 #[] h fun v' h' => ∃ p, v' = .pointer (some ⟨p, 0, none⟩) ∧ h.size ≤ p ∧ HashAt h' p (.slice none 0 0) Sha.H0 [] 0 ∧ ExtH h h' := by
  refine fn_of 4 Tryz.func166 rfl (by kernel_rfl) rfl (by simp) ?_
  refine cw_seq (cw_region rfl ?_)
  refine cw_seq (cw_region rfl ?_)
  conv => whnf
  refine ⟨_, rfl, _, beginning_fn h, ?_⟩
  rintro _ h1 ⟨rfl, x1⟩
  conv => whnf
  refine ⟨_, rfl, (hashC Sha.H0 (.slice none 0 0) 0).toArray, fun w => by kernel_rfl, ?_⟩
  conv => whnf
  intro h2 n2
  refine cw_ret ?_
  exact ⟨h1.size, rfl, x1.size, ⟨n2.blk, OB.nil _⟩, x1.trans n2.ext⟩
theorem ready_fn {h : Heap} {p : Nat} (hb : rd h ⟨p, 0, none⟩ = some (.bool true)) : Fx Tryz.prog 224 #[.pointer (some ⟨p, 0, none⟩)] h fun v' h' => v' = .tuple #[] ∧ h' = h := by
  refine fn_of 14 Tryz.func224 rfl (by kernel_rfl) rfl (by simp) ?_
  refine cw_seq (cw_region rfl ?_)
  conv => whnf
  refine ⟨_, hb, ?_⟩
  refine cw_false rfl (cw_skip ?_)
  exact ⟨rfl, rfl⟩
end Go.Proofs.YtkdmpdbbcgdfkaaGreatDoor
namespace Go.Proofs.YtkdmpdbbcgdfkaaGreatDoor
open Go Vm
set_option maxRecDepth 100000
theorem compress_q (s : Sha.S8) (l : List UInt8) (hl : l.length = 64) (h : Heap) : FxQ Tryz.prog 288 #[.agg (s.list.map u32v).toArray, .agg (l.map u8v).toArray] h (.agg ((Sha.compress s l).list.map u32v).toArray) :=
  fun h1 _ => compress_fn s l hl h1
theorem hashC_set (s : Sha.S8) (v w : Value) (n : Nat) : (hashC s v n).set 9 w = hashC s w n := rfl
theorem hashC_splice (s t : Sha.S8) (v : Value) (n : Nat) : splice (hashC s v n) 1 (t.list.map u32v) = hashC t v n := rfl
theorem HashAt.buf {h : Heap} {p : Nat} {v : Value} {s : Sha.S8} {l : List UInt8} {n : Nat} (H : HashAt h p v s l n) : rd h ⟨p, 9, none⟩ = some v := H.blk.rd rfl
theorem HashAt.words {h : Heap} {p : Nat} {v : Value} {s : Sha.S8} {l : List UInt8} {n : Nat} (H : HashAt h p v s l n) : rdN h p 1 (s.list.map u32v) := H.blk.rdN 1 _ rfl
theorem RB.len {h : Heap} {v : Value} {l : List UInt8} (r : RB h v l) : ∃ a c, v = .slice a l.length c := by
  rcases r.cases with ⟨rfl, rfl⟩ | ⟨A, cap, rfl, _⟩
  · exact ⟨_, _, rfl⟩
  · exact ⟨_, _, rfl⟩
theorem OB.cases {h : Heap} {v : Value} {l : List UInt8} (r : OB h v l) : (v = .slice none 0 0 ∧ l = []) ∨ ∃ b cap tl, v = .slice (some ⟨b, 0, none⟩) l.length cap ∧ l.length ≤ cap ∧ cap ≤ maxLen ∧ Blk h b (l.map u8v ++ tl) 5 ∧ l.length + tl.length = cap := by
  rcases r.2 with ⟨rfl, h0⟩ | ⟨g, cap, tl, rfl, hb, hc, hm, hl⟩
  · exact .inl ⟨rfl, List.eq_nil_of_length_eq_zero h0⟩
  · exact .inr ⟨g, cap, tl, rfl, hc, hm, hb, by simpa using hl⟩
/-- a part of the bytes -/
theorem OB.part {h : Heap} {b : Nat} {l : List UInt8} {tl : List Value} (hb : Blk h b (l.map u8v ++ tl) 5) (i j : Nat) (hi : i ≤ j) (hj : j ≤ l.length) :
    rdN h b i (((l.drop i).take (j - i)).map u8v) := by
  refine hb.rdN i _ ?_
  rw [List.drop_append_of_le_length (by simp; omega), List.take_append_of_le_length (by simp; omega)]
  simp only [List.length_map, List.length_take, List.length_drop]
  rw [show min (j - i) (l.length - i) = j - i by omega, List.map_take, List.map_drop]
/-- a part of a slice, as the program cuts it -/
theorem RB.cut {h : Heap} {a : Option Addr} {n c : Nat} {l : List UInt8} (r : RB h (.slice a n c) l) (i j : Nat) (hi : i ≤ j) (hj : j ≤ l.length) {x y : Int} (ex : x = i) (ey : y = j) :
    (0 ≤ x ∧ x ≤ y ∧ y ≤ (c : Int)) ∧ ∃ A, (if c = x.toNat then a else a.map (·.add (x.toNat * 1))) = A ∧ RB h (.slice A (y.toNat - x.toNat) (c - x.toNat)) ((l.drop i).take (j - i)) := by
  subst ex ey
  have hlen : ((l.drop i).take (j - i)).length = j - i := by simp; omega
  rcases r.cases with ⟨h1, rfl⟩ | ⟨X, cap, h1, hc, hm, hr⟩
  · injection h1 with h1 h2 h3
    subst h1 h2 h3
    have hj0 : j = 0 := by simpa using hj
    have hi0 : i = 0 := by omega
    subst hj0 hi0
    exact ⟨⟨by omega, by omega, by omega⟩, none, rfl, rfl, .inl ⟨rfl, rfl⟩⟩
  · injection h1 with h1 h2 h3
    subst h1 h2 h3
    refine ⟨⟨by omega, by omega, by omega⟩, ?_⟩
    by_cases he : c = i
    · refine ⟨some X, by rw [if_pos (by omega)], by simp, .inr ⟨X, c - i, ?_, ?_, ?_, ?_⟩⟩
      · rw [hlen]; congr 1 <;> omega
      · omega
      · omega
      · have : (l.drop i).take (j - i) = [] := List.eq_nil_of_length_eq_zero (by omega)
        rw [this]
        intro j v hj; simp at hj
    · refine ⟨some (X.add i), ?_, by simp, .inr ⟨X.add i, c - i, ?_, ?_, ?_, ?_⟩⟩
      · rw [if_neg (by omega)]
        show some (Addr.add X ((i : Int).toNat * 1)) = _
        rw [show (i : Int).toNat * 1 = i by omega]
      · rw [hlen]; congr 1 <;> omega
      · omega
      · omega
      · intro t v ht
        rw [add_add]
        refine hr (i + t) v ?_
        rw [List.map_take, List.map_drop, List.getElem?_take] at ht
        split at ht
        · rwa [List.getElem?_drop] at ht
        · cases ht
theorem take_fn {h : Heap} {p : Nat} {v x : Value} {s : Sha.S8} {l m : List UInt8} {n : Nat} (H : HashAt h p v s l n) (hx : RB h x m) (hl : l.length + m.length ≤ 140737488355328) :
    Fx Tryz.prog 225 #[.pointer (some ⟨p, 0, none⟩), x] h fun _ h' => ∃ v', HashAt h' p v' (Sha.feed s (l ++ m)) (Sha.rest (l ++ m)) n ∧ Chg (fun b => b = p ∨ ob v b) h h' ∧ ∀ b, ob v' b → h.size ≤ b := by
  refine fn_of 52 Tryz.func225 rfl (by kernel_rfl) rfl (by simp) ?_
  refine cw_seq (cw_region rfl ?_)
  conv => whnf
  refine ⟨_, H.buf, ?_⟩
  conv => whnf
  refine ⟨_, rfl, _, append_bytes (ty := 46) H.own hx hl, ?_⟩
  rintro v1 h1 ⟨o1, c1, f1⟩
  obtain ⟨a1, k1, e1⟩ := o1.r.len
  have hpv := H.ne
  subst e1
  conv => whnf
  refine ⟨_, _, c1.blk H.blk hpv, (show (9 : Nat) < 11 from by decide), ?_⟩
  intro h2 w2
  generalize hv1 : Value.slice a1 (l ++ m).length k1 = v1 at *
  replace w2 := w2.cast (l' := hashC s v1 n) rfl
  have hp := H.blk.lt
  have n1 : ¬ ob v1 p := OwnS.ne o1 (c1.blk H.blk hpv) (by decide)
  have H2 : HashAt h2 p v1 (Sha.feedN s (l ++ m) 0) (l ++ m) n := ⟨w2.new, OwnS.keep o1 w2.chg (fun b hb e => n1 (e ▸ hb))⟩
  have c2 : Chg (fun b => b = p ∨ ob v b) h h2 := (c1.trans w2.chg).mono (fun b _ hb => hb.symm)
  have hlm : (l ++ m).length ≤ 140737488355328 := by simpa using hl
  generalize l ++ m = lm at *
  refine cw_seq (cw_region rfl ?_)
  conv => whnf
  refine cw_seq (cw_block ?_)
  refine cw_loop (S := Nat) (fun k => [(0, .pointer (some ⟨p, 0, none⟩)), (4, .int .i64 ((64 * k : Nat) : Int))])
    (fun k h3 => 64 * k ≤ lm.length ∧ HashAt h3 p v1 (Sha.feedN s lm k) lm n ∧ Chg (fun b => b = p ∨ ob v b) h h3) (fun k => lm.length - 64 * k) 0 ⟨rfl, rfl, trivial⟩ ⟨by omega, H2, c2⟩ ?_
  clear H2 c2 n1 w2 h2 c1 f1 o1 h1
  rintro k h3 ⟨hk, H3, c3⟩
  refine cw_seq (cw_seq (cw_region rfl ?_))
  conv => whnf
  refine ⟨_, H3.buf, ?_⟩
  subst hv1
  conv => whnf
  have i1 := i64_eq ((lm.length : Int) - ((64 * k : Nat) : Int)) (lm.length - 64 * k) (by omega) (by omega)
  by_cases hlt : 64 * k + 64 ≤ lm.length
  · refine cw_yes rfl (by omega) (cw_skip ?_)
    rcases H3.own.cases with ⟨_, hn⟩ | ⟨g, cap, tl, hvs, hc, hm, hg, hcl⟩
    · subst hn; simp at hlt
    injection hvs with ha _ hcap
    subst ha hcap
    refine cw_block (cw_seq ?_)
    have i2 := i64_eq (((64 * k : Nat) : Int) + 64) (64 * k + 64) (by omega) (by omega)
    refine cw_drawn (by kernel_rfl) 18 (fun _ => false) (List.range 18) (by kernel_rfl) rfl ?_
    conv => whnf
    refine ⟨_, by rfl, H3.words, ?_⟩
    conv => whnf
    refine ⟨_, H3.buf, ?_⟩
    conv => whnf
    refine ⟨⟨by omega, by omega, by omega⟩, some ⟨g, 64 * k, none⟩, ?_, ?_⟩
    · rw [if_neg (by omega)]
      show some (Addr.add ⟨g, 0, none⟩ (((64 * k : Nat) : Int).toNat * 1)) = _
      rw [add_none, show 0 + ((64 * k : Nat) : Int).toNat * 1 = 64 * k by omega]
    conv => whnf
    refine ⟨by show (64 : Nat) ≤ _; omega, ?_⟩
    conv => whnf
    refine ⟨_, Eq.trans (b := 64) (by simp; omega) rfl, OB.part hg (64 * k) (64 * k + 64) (by omega) (by omega), ?_⟩
    conv => whnf
    refine ⟨_, rfl, _, compress_q (Sha.feedN s lm k) ((lm.drop (64 * k)).take (64 * k + 64 - 64 * k)) (by simp; omega) h3, ?_⟩
    conv => whnf
    intro h4 x4
    conv => whnf
    refine ⟨_, _, x4.blk H3.blk, ⟨(show (9 : Nat) ≤ 11 by decide), rfl, by simp [u32v, Value.oneCell', Sha.S8.list]⟩, ?_⟩
    intro h5 w5
    replace w5 := w5.cast (l' := hashC (Sha.feedN s lm (k + 1)) (.slice (some ⟨g, 0, none⟩) lm.length k1) n) (by
      rw [show 64 * k + 64 - 64 * k = 64 by omega]; rfl)
    have hne := H3.ne
    have hgp : g ≠ p := fun e => hne (ob_slice.2 e.symm)
    refine cw_region rfl ?_
    refine ⟨k + 1, ⟨rfl, slot_i64 _ _ (by omega) (by omega), trivial⟩, ⟨by omega, ⟨w5.new, OwnS.keep (OwnS.more H3.own x4) w5.chg (fun b hb e => hne (e ▸ hb))⟩, ?_⟩, by omega⟩
    exact ((c3.trans (x4.chg (S := fun _ => False))).trans w5.chg (T := fun b => b = p)).mono (fun b _ hb => by
      rcases hb with (hb | hb) | hb
      · exact hb
      · exact hb.elim
      · exact .inl hb)
  · refine cw_no rfl (by omega) (cw_exit ?_)
    have hr : lm.length - 64 * k < 64 := by omega
    have hk' : k = lm.length / 64 := by omega
    refine cw_region rfl ?_
    conv => whnf
    refine ⟨_, H3.buf, ?_⟩
    conv => whnf
    have hcut := H3.own.r.cut (64 * k) lm.length hk (Nat.le_refl _) (x := ((64 * k : Nat) : Int)) (y := (lm.length : Int)) rfl rfl
    obtain ⟨A, hA, hR⟩ := hcut.2
    refine ⟨hcut.1, A, hA, ?_⟩
    conv => whnf
    refine ⟨_, rfl, _, append_bytes (ty := 46) (v := .slice none 0 0) (OB.nil h3) hR (by simp; omega), ?_⟩
    have er : [] ++ (lm.drop (64 * k)).take (lm.length - 64 * k) = Sha.rest lm := by
      rw [List.nil_append, List.take_of_length_le (by simp)]
      unfold Sha.rest
      rw [hk', Nat.mul_comm]
    have ef : Sha.feedN s lm k = Sha.feed s lm := by rw [Sha.feed_feedN, hk']
    rw [ef] at H3
    rw [er]
    rintro v4 h4 ⟨o4, c4, f4⟩
    obtain ⟨a4, k4, e4⟩ := o4.r.len
    subst e4
    have x4 : ExtH h3 h4 := c4.ext (fun b hb => (ob_nil hb).elim)
    conv => whnf
    refine ⟨_, _, x4.blk H3.blk, (show (9 : Nat) < 11 from by decide), ?_⟩
    intro h5 w5
    generalize hv4 : Value.slice a4 (Sha.rest lm).length k4 = v4 at *
    replace w5 := w5.cast (l' := hashC (Sha.feed s lm) v4 n) rfl
    have hs3 := c3.size
    have fr : ∀ b, ob v4 b → h.size ≤ b := fun b hb => by
      rcases f4 b hb with h6 | h6
      · exact (ob_nil h6).elim
      · omega
    refine ⟨v4, ⟨w5.new, OwnS.keep o4 w5.chg (fun b hb e => ?_)⟩, ?_, fr⟩
    · have := fr b hb; omega
    · exact ((c3.trans (x4.chg (S := fun _ => False))).trans w5.chg (T := fun b => b = p)).mono (fun b _ hb => by
        rcases hb with (hb | hb) | hb
        · exact hb
        · exact hb.elim
        · exact .inl hb)
end Go.Proofs.YtkdmpdbbcgdfkaaGreatDoor
namespace Go.Proofs.YtkdmpdbbcgdfkaaGreatDoor
open Go Vm
set_option maxRecDepth 100000
theorem hclone_fn {h : Heap} {p : Nat} {v : Value} {s : Sha.S8} {l : List UInt8} {n : Nat} (H : HashAt h p v s l n) (hl : l.length ≤ 140737488355328) :
    Fx Tryz.prog 226 #[.pointer (some ⟨p, 0, none⟩)] h fun u h' => ∃ q v', u = .pointer (some ⟨q, 0, none⟩) ∧ h.size ≤ q ∧ HashAt h' q v' s l n ∧ ExtH h h' ∧ ∀ b, ob v' b → h.size ≤ b := by
  refine fn_of 22 Tryz.func226 rfl (by kernel_rfl) rfl (by simp) ?_
  refine cw_seq (cw_region rfl ?_)
  refine cw_seq (cw_seq (cw_region rfl ?_))
  conv => whnf
  refine ⟨.bool false, fun w => by kernel_rfl, ?_⟩
  refine cw_false rfl (cw_skip ?_)
  refine cw_seq (cw_region rfl ?_)
  conv => whnf
  refine ⟨_, rfl, _, ready_fn (H.blk.rd rfl), ?_⟩
  rintro _ h1 ⟨rfl, rfl⟩
  refine cw_seq ?_
  refine cw_drawn (by kernel_rfl) 14 (fun i => i == 8) [0, 1, 2, 3, 4, 5, 6, 7, 9, 10, 11, 12, 8, 13] (by kernel_rfl) rfl ?_
  conv => whnf
  refine ⟨_, by rfl, H.words, ?_⟩
  conv => whnf
  refine ⟨_, H.buf, ?_⟩
  conv => whnf
  refine ⟨_, (H.blk.rd (o := 10) rfl), ?_⟩
  conv => whnf
  intro h2 x2
  refine ⟨_, rfl, _, clone_fn (Src.more H.own.r x2) hl, ?_⟩
  rintro v' h3 ⟨o3, x3, f3⟩
  obtain ⟨a3, k3, e3⟩ := o3.r.len
  subst e3
  refine ⟨x3.toU _, ?_⟩
  intro h4 x4
  conv => whnf
  refine ⟨_, rfl, (hashC s (.slice a3 l.length k3) n).toArray, fun w => by kernel_rfl, ?_⟩
  conv => whnf
  intro h5 x5
  conv => whnf
  intro h6 n6
  refine cw_ret ?_
  have z2 := x2.size; have z3 := x3.size; have z4 := x4.size; have z5 := x5.size
  exact ⟨h5.size, _, rfl, by omega, ⟨n6.blk, OwnS.more o3 ((x4.trans x5).trans n6.ext)⟩, ((x2.trans x3).trans (x4.trans x5)).trans n6.ext, fun b hb => by have := f3 b hb; omega⟩
theorem partk_int {P : Program} {T : TypeId} {cs : Array Value} {off : Nat} {k : Value → Prop} {v : Value} {kd : IntKind} (hT : P.underlying T = some (.int kd)) (hi : (P.info? T).isSome = true) (hv : cs[off]? = some v) (H : k v) : partk P T cs off k := by
  obtain ⟨i, hi⟩ := Option.isSome_iff_exists.1 hi
  unfold partk
  simp only [hT, hi, hv]
  exact H
def dcells (s : Sha.S8) (i : Nat) : List Value := ((Sha.bytes s).map u8v).take (4 * i) ++ List.replicate (32 - 4 * i) (u8v 0)
theorem dcells_set (s : Sha.S8) (i : Nat) (hi : i < 8) :
    ((((dcells s i).set (4 * i) (u8v (UInt8.ofNat ((s.list.getD i 0).toNat / 16777216)))).set (4 * i + 1) (u8v (UInt8.ofNat ((s.list.getD i 0).toNat / 65536)))).set (4 * i + 2) (u8v (UInt8.ofNat ((s.list.getD i 0).toNat / 256)))).set (4 * i + 3) (u8v (UInt8.ofNat (s.list.getD i 0).toNat)) = dcells s (i + 1) := by
  have : i = 0 ∨ i = 1 ∨ i = 2 ∨ i = 3 ∨ i = 4 ∨ i = 5 ∨ i = 6 ∨ i = 7 := by omega
  rcases this with rfl | rfl | rfl | rfl | rfl | rfl | rfl | rfl <;> rfl
theorem dcells_length (s : Sha.S8) (i : Nat) (hi : i ≤ 8) : (dcells s i).length = 32 := by simp [dcells, Sha.bytes_length]; omega
theorem shr_byte (x : UInt32) (k : Int) (m d : Nat) (hk : min k.toNat 32 = m) (hd : 2 ^ m = d) : Value.int .u8 (IntKind.u8.wrap ((x.toNat : Int) / 2 ^ min k.toNat 32)) = u8v (UInt8.ofNat (x.toNat / d)) := by
  rw [hk, show (x.toNat : Int) / 2 ^ m = ((x.toNat / d : Nat) : Int) by rw [← hd]; simp, wrap8_nat]
  rfl
theorem sum_fn {h : Heap} {p : Nat} {v : Value} {s : Sha.S8} {l : List UInt8} {n : Nat} (H : HashAt h p v s l n) (hl : l.length ≤ 100000000000000) (hn : n ≤ 2305843009213693951) :
    Fx Tryz.prog 168 #[.pointer (some ⟨p, 0, none⟩)] h fun u h' => u = .agg ((Sha.sum s l n).map u8v).toArray ∧ ExtH h h' := by
  refine fn_of 61 Tryz.func168 rfl (by kernel_rfl) rfl (by simp) ?_
  refine cw_seq (cw_region rfl ?_)
  conv => whnf
  intro h1 n1
  refine cw_seq (cw_region rfl ?_)
  conv => whnf
  intro h2 n2
  refine cw_seq (cw_seq (cw_region rfl ?_))
  conv => whnf
  refine ⟨.bool false, fun w => by kernel_rfl, ?_⟩
  refine cw_false rfl (cw_skip ?_)
  have z1 := n1.size; have z2 := n2.size
  have H2 := H.more (n1.ext.trans n2.ext)
  refine cw_seq (cw_region rfl ?_)
  conv => whnf
  refine ⟨_, rfl, _, hclone_fn H2 (by omega), ?_⟩
  rintro _ h3 ⟨q, v3, rfl, hq, H3, x3, f3⟩
  conv => whnf
  refine cw_seq (cw_region rfl ?_)
  conv => whnf
  refine ⟨_, H3.blk.rd (o := 10) rfl, ?_⟩
  conv => whnf
  refine ⟨_, rfl, _, pad_yes n hn h3, ?_⟩
  rintro _ h4 ⟨v4, rfl, o4, x4, f4⟩
  conv => whnf
  refine cw_seq (cw_region rfl ?_)
  conv => whnf
  have hz : Sha.zeros n < 64 := by unfold Sha.zeros; omega
  refine ⟨_, rfl, _, take_fn (H3.more x4) o4.r (by rw [Sha.pad_length]; omega), ?_⟩
  rintro _ h5 ⟨v5, H5, c5, f5⟩
  have y1 : Blk h1 h.size (List.replicate 32 (u8v 0)) 53 := n1.blk
  have y2 : Blk h2 h1.size (dcells (Sha.feed s (l ++ Sha.pad n)) 0) 53 := n2.blk
  have z3 := x3.size; have z4 := x4.size; have z5 := c5.size
  have b1 : Blk h5 h.size (List.replicate 32 (u8v 0)) 53 := by
    refine c5.blk (x4.blk (x3.blk (n2.ext.blk y1))) (fun e => ?_)
    rcases e with e | e
    · omega
    · have := f3 _ e; omega
  have b2 : Blk h5 h1.size (dcells (Sha.feed s (l ++ Sha.pad n)) 0) 53 := by
    refine c5.blk (x4.blk (x3.blk y2)) (fun e => ?_)
    rcases e with e | e
    · omega
    · have := f3 _ e; omega
  have x5 : ExtH h h5 := ⟨by omega, fun b hb => by
    rw [c5.block b (by omega) (fun e => by
      rcases e with e | e
      · omega
      · have := f3 _ e; omega), x4.block b (by omega), x3.block b (by omega), n2.block b (by omega), n1.block b hb]⟩
  generalize hs' : Sha.feed s (l ++ Sha.pad n) = s' at *
  have hsum : Sha.sum s l n = Sha.bytes s' := by rw [← hs']; rfl
  generalize hdb : h1.size = db at *
  clear y1 y2 f5 c5 x4 o4 f4 f3 x3 H3 H2 n2 n1
  refine cw_seq (cw_seq (cw_region rfl ?_))
  conv => whnf
  refine ⟨_, by rfl, H5.words, ?_⟩
  conv => whnf
  refine cw_block ?_
  refine cw_loop (S := Nat) (fun t => [(2, .pointer (some ⟨h.size, 0, none⟩)), (3, .pointer (some ⟨db, 0, none⟩)), (28, .agg (s'.list.map u32v).toArray), (29, .int .i64 (t : Int))])
    (fun t h' => t ≤ 8 ∧ Blk h' h.size (List.replicate 32 (u8v 0)) 53 ∧ Blk h' db (dcells s' t) 53 ∧ ExtH h h') (fun t => 8 - t) 0 ⟨rfl, rfl, rfl, rfl, trivial⟩ ⟨by omega, b1, b2, x5⟩ ?_
  clear b1 b2 x5 H5
  rintro t h6 ⟨ht, b1, b2, x6⟩
  refine cw_seq (cw_region rfl ?_)
  by_cases hlt : t < 8
  · refine cw_seq (cw_yes rfl (by omega) (cw_skip ?_))
    refine cw_seq (cw_block (cw_seq (cw_region rfl ?_)))
    conv => whnf
    refine ⟨⟨by omega, by show (t : Int) < ((8 : Nat) : Int); omega⟩, partk_int (v := u32v (s'.list.getD t 0)) (kd := .u32) rfl rfl ?_ ?_⟩
    · show (s'.list.map u32v).toArray[((t : Int)).toNat * 1]? = _
      rw [List.getElem?_toArray, show ((t : Int)).toNat * 1 = t by omega]
      exact map_get u32v _ t 0 (by show t < 8; exact hlt)
    refine cw_region rfl ?_
    have e0 := i64_eq (4 * (t : Int)) (4 * t) (by omega) (by omega)
    have e1 := i64_eq (IntKind.i64.wrap (4 * (t : Int)) + 1) (4 * t + 1) (by omega) (by omega)
    have e2 := i64_eq (IntKind.i64.wrap (4 * (t : Int)) + 2) (4 * t + 2) (by omega) (by omega)
    have e3 := i64_eq (IntKind.i64.wrap (4 * (t : Int)) + 3) (4 * t + 3) (by omega) (by omega)
    have hlen := dcells_length s' t ht
    conv => whnf
    refine ⟨by decide, ?_⟩
    conv => whnf
    refine ⟨by decide, ?_⟩
    conv => whnf
    refine ⟨by decide, ?_⟩
    conv => whnf
    refine ⟨⟨by omega, by omega⟩, ?_⟩
    conv => whnf
    refine ⟨_, _, b2, by omega, ?_⟩
    intro h7 w7
    replace w7 := w7.cast (l' := (dcells s' t).set (4 * t) (u8v (UInt8.ofNat ((s'.list.getD t 0).toNat / 16777216))))
      (congr (congrArg (List.set (dcells s' t)) (by omega)) (shr_byte _ 24 24 _ (by decide) (by decide)))
    conv => whnf
    refine ⟨⟨by omega, by omega⟩, ?_⟩
    conv => whnf
    refine ⟨_, _, w7.new, by simp only [List.length_set]; omega, ?_⟩
    intro h8 w8
    replace w8 := w8.cast (l' := ((dcells s' t).set (4 * t) (u8v (UInt8.ofNat ((s'.list.getD t 0).toNat / 16777216)))).set (4 * t + 1) (u8v (UInt8.ofNat ((s'.list.getD t 0).toNat / 65536))))
      (congr (congrArg (List.set _) (by omega)) (shr_byte _ 16 16 _ (by decide) (by decide)))
    conv => whnf
    refine ⟨⟨by omega, by omega⟩, ?_⟩
    conv => whnf
    refine ⟨_, _, w8.new, by simp only [List.length_set]; omega, ?_⟩
    intro h9 w9
    replace w9 := w9.cast (l' := (((dcells s' t).set (4 * t) (u8v (UInt8.ofNat ((s'.list.getD t 0).toNat / 16777216)))).set (4 * t + 1) (u8v (UInt8.ofNat ((s'.list.getD t 0).toNat / 65536)))).set (4 * t + 2) (u8v (UInt8.ofNat ((s'.list.getD t 0).toNat / 256))))
      (congr (congrArg (List.set _) (by omega)) (shr_byte _ 8 8 _ (by decide) (by decide)))
    conv => whnf
    refine ⟨⟨by omega, by omega⟩, ?_⟩
    conv => whnf
    refine ⟨_, _, w9.new, by simp only [List.length_set]; omega, ?_⟩
    intro h10 w10
    replace w10 := w10.cast (l' := dcells s' (t + 1)) (by
      rw [← dcells_set s' t hlt]
      refine congr (congrArg (List.set _) (by omega)) (congrArg (Value.int .u8) ?_)
      exact wrap8_nat _)
    refine cw_region rfl ?_
    have hne : h.size ≠ db := by omega
    refine ⟨t + 1, ⟨rfl, rfl, rfl, slot_i64 _ _ (by omega) (by omega), trivial⟩, ⟨by omega, w10.blk (w9.blk (w8.blk (w7.blk b1 hne) hne) hne) hne, w10.new, ?_⟩, by omega⟩
    have s7 := w7.size; have s8 := w8.size; have s9 := w9.size; have s10 := w10.size; have s6 := x6.size
    exact ⟨by omega, fun b hb => by rw [w10.block b (by omega), w9.block b (by omega), w8.block b (by omega), w7.block b (by omega), x6.block b hb]⟩
  · refine cw_seq (cw_no rfl (by omega) (cw_exit ?_))
    have t8 : t = 8 := by omega
    subst t8
    have e32 : dcells s' 8 = (Sha.bytes s').map u8v := rfl
    rw [e32] at b2
    refine cw_seq (cw_region rfl ?_)
    conv => whnf
    refine ⟨_, by rfl, b2.all, ?_⟩
    conv => whnf
    refine ⟨_, _, b1, ⟨(show (32 : Nat) ≤ 32 by decide), by rfl, by simp [u8v, Value.oneCell']⟩, ?_⟩
    intro h7 w7
    replace w7 := w7.cast (l' := (Sha.bytes s').map u8v) (by simp [splice, Sha.bytes_length])
    refine cw_ret ?_
    conv => whnf
    refine ⟨_, by rfl, w7.new.all, ?_⟩
    have s7 := w7.size; have s6 := x6.size
    refine ⟨?_, ⟨by omega, fun b hb => by rw [w7.block b (by omega), x6.block b hb]⟩⟩
    rw [hsum]
    rfl
theorem sum_q {h : Heap} {p : Nat} {v : Value} {s : Sha.S8} {l : List UInt8} {n : Nat} (H : HashAt h p v s l n) (hl : l.length ≤ 100000000000000) (hn : n ≤ 2305843009213693951) :
    FxQ Tryz.prog 168 #[.pointer (some ⟨p, 0, none⟩)] h (.agg ((Sha.sum s l n).map u8v).toArray) := fun _ x => sum_fn (H.more x) hl hn
end Go.Proofs.YtkdmpdbbcgdfkaaGreatDoor
namespace Go.Proofs.YtkdmpdbbcgdfkaaGreatDoor
open Go Vm
set_option maxRecDepth 100000
/-- bytes that are read, in blocks of D -/
def RD (D : Nat → Prop) (h : Heap) (v : Value) (l : List UInt8) : Prop := RB h v l ∧ (l ≠ [] → ∀ b, ob v b → D b)
theorem Src.keep0 {S : Nat → Prop} {h h' : Heap} {k : Nat} {v : Value} {n : Nat} {xs : List Value} (H : Src h k v n xs) (c : Chg S h h') (hn : xs ≠ [] → ∀ b, ob v b → ¬ S b) : Src h' k v n xs := by
  by_cases hx : xs = []
  · subst hx
    refine ⟨H.1, ?_⟩
    rcases H.2 with h0 | ⟨A, cap, rfl, hc, hm, hr⟩
    · exact .inl h0
    · exact .inr ⟨A, cap, rfl, hc, hm, fun j v hj => by simp at hj⟩
  · exact H.keep c (hn hx)
theorem RD.keep {D S : Nat → Prop} {h h' : Heap} {v : Value} {l : List UInt8} (H : RD D h v l) (c : Chg S h h') (hD : ∀ b, D b → ¬ S b) : RD D h' v l :=
  ⟨Src.keep0 H.1 c (fun hx b hb => hD b (H.2 (by simpa using hx) b hb)), H.2⟩
/-- a list of parts that are read, in blocks of D -/
structure PD (D : Nat → Prop) (h : Heap) (x : Value) (ms : List (List UInt8)) (pv : List Value) : Prop where
  src : Src h 1 x ms.length pv
  out : ms ≠ [] → ∀ b, ob x b → D b
  part : ∀ (i : Nat) (m : List UInt8), ms[i]? = some m → ∃ v, pv[i]? = some v ∧ RD D h v m
theorem PD.keep {D S : Nat → Prop} {h h' : Heap} {x : Value} {ms : List (List UInt8)} {pv : List Value} (H : PD D h x ms pv) (c : Chg S h h') (hD : ∀ b, D b → ¬ S b) : PD D h' x ms pv := by
  refine ⟨Src.keep0 H.src c (fun hx b hb => hD b (H.out (fun e => hx ?_) b hb)), H.out, fun i m hi => ?_⟩
  · subst e
    have := H.src.1
    exact List.eq_nil_of_length_eq_zero (by simpa using this)
  · obtain ⟨v, h1, h2⟩ := H.part i m hi
    exact ⟨v, h1, h2.keep c hD⟩
theorem PD.form {D : Nat → Prop} {h : Heap} {x : Value} {ms : List (List UInt8)} {pv : List Value} (H : PD D h x ms pv) : (x = .slice none 0 0 ∧ ms = []) ∨ ∃ A cap, x = .slice (some A) ms.length cap ∧ ms.length ≤ cap ∧ cap ≤ maxLen ∧ rdA h A pv := by
  rcases H.src.2 with ⟨rfl, h0⟩ | ⟨A, cap, rfl, h1, h2, h3⟩
  · exact .inl ⟨rfl, List.eq_nil_of_length_eq_zero h0⟩
  · exact .inr ⟨A, cap, rfl, h1, h2, h3⟩
def upto (ms : List (List UInt8)) (t : Nat) : List UInt8 := (ms.take t).flatten
theorem upto_zero (ms : List (List UInt8)) : upto ms 0 = [] := rfl
theorem upto_all (ms : List (List UInt8)) : upto ms ms.length = ms.flatten := by simp [upto]
theorem upto_succ (ms : List (List UInt8)) (t : Nat) (m : List UInt8) (h : ms[t]? = some m) : upto ms (t + 1) = upto ms t ++ m := by
  unfold upto
  rw [List.take_add_one, h]
  simp
theorem upto_le (ms : List (List UInt8)) (t : Nat) : (upto ms t).length ≤ ms.flatten.length := by
  have := congrArg (fun l => l.flatten.length) (List.take_append_drop t ms)
  simp only [List.flatten_append, List.length_append] at this
  unfold upto
  omega
theorem write_fn {D : Nat → Prop} {h : Heap} {p : Nat} {v x : Value} {s : Sha.S8} {l : List UInt8} {n : Nat} {ms : List (List UInt8)} {pv : List Value} (H : HashAt h p v s l n) (hx : PD D h x ms pv)
    (hD : ∀ b, D b → b < h.size ∧ b ≠ p ∧ ¬ ob v b) (hl : l.length < 64) (hms : ms.flatten.length ≤ 100000000000000) (hn : n + ms.flatten.length ≤ 2305843009213693951) :
    Fx Tryz.prog 167 #[.pointer (some ⟨p, 0, none⟩), x] h fun u h' => u = .int .i64 0 ∧ ∃ v', HashAt h' p v' (Sha.feed s (l ++ ms.flatten)) (Sha.rest (l ++ ms.flatten)) (n + ms.flatten.length) ∧
      Chg (fun b => b = p ∨ ob v b) h h' ∧ ∀ b, ob v' b → ob v b ∨ h.size ≤ b := by
  refine fn_of 46 Tryz.func167 rfl (by kernel_rfl) rfl (by simp) ?_
  refine cw_seq (cw_region rfl ?_)
  refine cw_seq (cw_seq (cw_region rfl ?_))
  conv => whnf
  refine ⟨.bool false, fun w => by kernel_rfl, ?_⟩
  refine cw_false rfl (cw_skip ?_)
  refine cw_seq (cw_region rfl ?_)
  conv => whnf
  refine ⟨_, rfl, _, ready_fn (H.blk.rd rfl), ?_⟩
  rintro _ h0 ⟨rfl, e⟩
  subst h0
  conv => whnf
  refine cw_seq (cw_region rfl ?_)
  conv => whnf
  refine ⟨_, H.blk.rd (o := 10) rfl, ?_⟩
  have hlen : ms.length ≤ maxLen := by
    rcases hx.form with ⟨rfl, rfl⟩ | ⟨A, cap, rfl, hc, hm, hr⟩
    · exact Nat.zero_le _
    · omega
  have hfx : ∃ a c, x = .slice a ms.length c := by
    rcases hx.form with ⟨rfl, rfl⟩ | ⟨A, cap, rfl, hc, hm, hr⟩
    · exact ⟨_, _, rfl⟩
    · exact ⟨_, _, rfl⟩
  have hmax : maxLen < 9223372036854775808 := by decide
  obtain ⟨a, c, hfx⟩ := hfx
  refine cw_seq (cw_seq (cw_region rfl ?_))
  subst hfx
  conv => whnf
  refine cw_block ?_
  refine cw_loop (S := Nat) (fun t => [(0, .pointer (some ⟨p, 0, none⟩)), (1, .slice a ms.length c), (5, .int .u64 ((n + (upto ms t).length : Nat) : Int)), (18, .slice a ms.length c), (19, .int .i64 (ms.length : Int)), (20, .int .i64 (t : Int))])
    (fun t h' => t ≤ ms.length ∧ h' = h) (fun t => ms.length - t) 0 ⟨rfl, rfl, rfl, rfl, rfl, rfl, trivial⟩ ⟨by omega, rfl⟩ ?_
  rintro t h0 ⟨ht, e⟩
  subst h0
  refine cw_seq (cw_region rfl ?_)
  have row : ∀ {h' : Heap}, PD D h' (.slice a ms.length c) ms pv → ∀ (t : Nat), t < ms.length → ∃ b o m v, a = some ⟨b, o, none⟩ ∧ ms[t]? = some m ∧ rd h' ⟨b, o + t, none⟩ = some v ∧ RD D h' v m := fun hx t hlt => by
    obtain ⟨v, h1, h2⟩ := hx.part t ms[t] (List.getElem?_eq_getElem hlt)
    rcases hx.form with ⟨h3, h4⟩ | ⟨A, cap, h3, hc, hm, hr⟩
    · rw [h4] at hlt; simp at hlt
    · injection h3 with h3
      have hs := hr.spot (by intro e; subst e; simp at h1)
      rw [hs, rdA_plain] at hr
      exact ⟨A.block, A.off, _, v, by rw [← hs]; exact h3, List.getElem?_eq_getElem hlt, hr t v h1, h2⟩
  by_cases hlt : t < ms.length
  · refine cw_seq (cw_yes rfl (by omega) (cw_skip ?_))
    obtain ⟨b, o, m, u, rfl, hm, hr, hu⟩ := row hx t hlt
    refine cw_seq (cw_block (cw_seq (cw_region rfl ?_)))
    conv => whnf
    refine ⟨⟨by omega, by omega⟩, ?_⟩
    conv => whnf
    refine ⟨_, hr, ?_⟩
    conv => whnf
    obtain ⟨ua, uc, hue⟩ := hu.1.len
    have hsucc := upto_succ ms t m hm
    have hle := upto_le ms (t + 1)
    have hle' : (upto ms (t + 1)).length = (upto ms t).length + m.length := by rw [hsucc]; simp
    refine cw_seq (cw_region rfl ?_)
    subst hue
    conv => whnf
    have e1 := u64_in (m.length : Int) m.length rfl (by omega)
    have e2 := u64_in (((n + (upto ms t).length : Nat) : Int) + IntKind.u64.wrap (m.length : Int)) (n + (upto ms (t + 1)).length) (by rw [e1]; omega) (by omega)
    refine cw_seq (cw_region rfl ?_)
    conv => whnf
    refine cw_no rfl (by omega) (cw_skip ?_)
    refine cw_region rfl ?_
    exact ⟨t + 1, ⟨rfl, rfl, congrArg (fun i => some (Value.int .u64 i)) e2, rfl, rfl, slot_i64 _ _ (by omega) (by omega), trivial⟩, ⟨by omega, rfl⟩, by omega⟩
  · refine cw_seq (cw_no rfl (by omega) (cw_exit ?_))
    have tn : t = ms.length := by omega
    subst tn
    clear hlt ht
    rw [upto_all]
    refine cw_seq (cw_seq (cw_region rfl ?_))
    conv => whnf
    refine cw_block ?_
    refine cw_loop (S := Nat) (fun t => [(0, .pointer (some ⟨p, 0, none⟩)), (5, .int .u64 ((n + ms.flatten.length : Nat) : Int)), (32, .slice a ms.length c), (33, .int .i64 (ms.length : Int)), (34, .int .i64 (t : Int))])
      (fun t h' => t ≤ ms.length ∧ ∃ v', HashAt h' p v' (Sha.feed s (l ++ upto ms t)) (Sha.rest (l ++ upto ms t)) n ∧ Chg (fun b => b = p ∨ ob v b) h h' ∧ ∀ b, ob v' b → ob v b ∨ h.size ≤ b) (fun t => ms.length - t) 0
      ⟨rfl, rfl, rfl, rfl, rfl, trivial⟩ ⟨by omega, v, ?_, ⟨Nat.le_refl _, fun _ _ _ => rfl⟩, fun b hb => .inl hb⟩ ?_
    · rw [upto_zero, List.append_nil, Sha.feed_lt s hl, Sha.rest_short hl]
      exact H
    rintro t h1 ⟨ht, v1, H1, c1, f1⟩
    have hx1 : PD D h1 (.slice a ms.length c) ms pv := hx.keep c1 (fun b hb e => by
      obtain ⟨h2, h3, h4⟩ := hD b hb
      rcases e with e | e
      · exact h3 e
      · exact h4 e)
    refine cw_seq (cw_region rfl ?_)
    by_cases hlt : t < ms.length
    · refine cw_seq (cw_yes rfl (by omega) (cw_skip ?_))
      obtain ⟨b, o, m, u, rfl, hm, hr, hu⟩ := row hx1 t hlt
      refine cw_seq (cw_block (cw_seq (cw_region rfl ?_)))
      conv => whnf
      refine ⟨⟨by omega, by omega⟩, ?_⟩
      conv => whnf
      refine ⟨_, hr, ?_⟩
      conv => whnf
      have hsucc := upto_succ ms t m hm
      have hle := upto_le ms (t + 1)
      have hle' : (upto ms (t + 1)).length = (upto ms t).length + m.length := by rw [hsucc]; simp
      have hrl := Sha.rest_lt (l ++ upto ms t)
      refine cw_region rfl ?_
      conv => whnf
      refine ⟨_, rfl, _, take_fn H1 hu.1 (by omega), ?_⟩
      rintro _ h2 ⟨v2, H2, c2, f2⟩
      have z1 := c1.size
      refine cw_region rfl ?_
      refine ⟨t + 1, ⟨rfl, rfl, rfl, rfl, slot_i64 _ _ (by omega) (by omega), trivial⟩, ⟨by omega, v2, ?_, ?_, fun b hb => .inr ?_⟩, by omega⟩
      · rw [← Sha.feed_app, Sha.rest_app, List.append_assoc, ← hsucc] at H2
        exact H2
      · refine (c1.trans c2).mono (fun b hb e => ?_)
        rcases e with e | e | e
        · exact e
        · exact .inl e
        · rcases f1 b e with e | e
          · exact .inr e
          · omega
      · have := f2 b hb; omega
    · refine cw_seq (cw_no rfl (by omega) (cw_exit ?_))
      have tn : t = ms.length := by omega
      subst tn
      rw [upto_all] at H1
      refine cw_seq (cw_region rfl ?_)
      conv => whnf
      refine ⟨_, _, H1.blk, (show (10 : Nat) < 11 by decide), ?_⟩
      intro h2 w2
      replace w2 := w2.cast (l' := hashC (Sha.feed s (l ++ ms.flatten)) v1 (n + ms.flatten.length)) rfl
      have hne := H1.ne
      refine cw_seq (cw_region rfl ?_)
      refine cw_ret ?_
      exact ⟨rfl, v1, ⟨w2.new, OwnS.keep H1.own w2.chg (fun b hb e => hne (e ▸ hb))⟩, (c1.trans w2.chg).mono (fun b _ e => by
        rcases e with e | e
        · exact e
        · exact .inl e), f1⟩
end Go.Proofs.YtkdmpdbbcgdfkaaGreatDoor
namespace Go.Proofs.YtkdmpdbbcgdfkaaGreatDoor
open Go Vm
set_option maxRecDepth 100000
/-- block b is read as l, and nothing else is turned -/
structure Marked (h h' : Heap) (b : Nat) (l : List Value) : Prop where
  size : h'.size = h.size
  rd : rdN h' b 0 l
  block : ∀ c, c ≠ b → h'[c]? = h[c]?
theorem conv_bytes {P : Program} {t e : TypeId} (ht : P.underlying t = some (.slice e)) (he : P.underlying e = some (.int .u8)) {h : Heap} {b o n c : Nat} {l : List Value} {e' : TypeId} (hb : Blk h b l e') :
    RunsV P (convert t t (.slice (some ⟨b, o, none⟩) n c)) h fun v h' => v = .slice (some ⟨b, o, none⟩) n c ∧ Marked h h' b l := by
  intro w hw
  subst hw
  have hsh : w.shape? b = some (e', l.length) := by
    unfold World.shape?
    rw [show w.heap[b]? = some (.cells l.toArray e' (0, 0)) from hb]
    simp
  have hlt := hb.lt
  have hnew : (w.freeze ⟨b, l.length, none⟩ 1).heap[b]? = some (.cells l.toArray e' (l.length, l.length + 1)) := by
    unfold World.freeze
    rw [if_neg (by decide)]
    simp only [Array.getElem?_modify]
    rw [show w.heap[b]? = some (.cells l.toArray e' (0, 0)) from hb]
    rfl
  refine ⟨.slice (some ⟨b, o, none⟩) n c, w.freeze ⟨b, l.length, none⟩ 1, ?_, ⟨?_, ?_, ?_⟩, rfl, ⟨?_, ?_, ?_⟩⟩
  · simp [convert, run_underlying ht, run_underlying he, markStringish, hsh]
  · simp [World.freeze]
  · simp [World.freeze]
  · simp [World.freeze]
  · simp [World.freeze]
  · intro j v hj
    unfold Vm.rd
    rw [show ((⟨b, 0 + j, none⟩ : Addr)).block = b from rfl, hnew]
    simpa using hj
  · intro k hk
    unfold World.freeze
    rw [if_neg (by decide)]
    simp only [Array.getElem?_modify]
    rw [if_neg (fun e => hk e.symm)]
theorem of_fn {D : Nat → Prop} {h : Heap} {x : Value} {ms : List (List UInt8)} {pv : List Value} (hx : PD D h x ms pv) (hD : ∀ b, D b → b < h.size) (hms : ms.flatten.length ≤ 100000000000000) :
    Fx Tryz.prog 120 #[x] h fun u h' => u = .agg ((Sha.digest ms.flatten).map u8v).toArray ∧ ExtH h h' := by
  refine fn_of 10 Tryz.func120 rfl (by kernel_rfl) rfl (by simp) ?_
  refine cw_seq (cw_region rfl ?_)
  conv => whnf
  intro h1 n1
  refine cw_seq (cw_region rfl ?_)
  conv => whnf
  refine ⟨_, rfl, _, new_fn h1, ?_⟩
  rintro _ h2 ⟨p, rfl, hp, H2, x2⟩
  conv => whnf
  have z1 := n1.size; have z2 := x2.size
  have hx2 : PD D h2 x ms pv := hx.keep ((n1.ext.trans x2).chg (S := fun _ => False)) (fun _ _ e => e)
  refine cw_seq (cw_region rfl ?_)
  conv => whnf
  refine ⟨_, rfl, _, write_fn H2 hx2 (fun b hb => by have := hD b hb; exact ⟨by omega, by omega, ob_nil⟩) (by decide) hms (by omega), ?_⟩
  rintro _ h3 ⟨rfl, v3, H3, c3, f3⟩
  conv => whnf
  have hr := Sha.rest_lt ([] ++ ms.flatten)
  refine cw_seq (cw_region rfl ?_)
  conv => whnf
  refine ⟨_, rfl, _, sum_fn H3 (by omega) (by omega), ?_⟩
  rintro _ h4 ⟨rfl, x4⟩
  have z3 := c3.size; have z4 := x4.size
  conv => whnf
  have b4 : Blk h4 h.size (List.replicate 32 (u8v 0)) 53 := by
    have : Blk h1 h.size (List.replicate 32 (u8v 0)) 53 := n1.blk
    refine x4.blk (c3.blk (x2.blk this) (fun e => ?_))
    rcases e with e | e
    · omega
    · exact ob_nil e
  refine ⟨_, _, b4, ⟨(show (32 : Nat) ≤ 32 by decide), by rfl, by simp [u8v, Value.oneCell']⟩, ?_⟩
  intro h5 w5
  replace w5 := w5.cast (l' := (Sha.digest ms.flatten).map u8v) (by simp [splice, Sha.sum_length, Sha.digest])
  refine cw_ret ?_
  conv => whnf
  refine ⟨_, by rfl, w5.new.all, rfl, ?_⟩
  have z5 := w5.size
  exact ⟨by omega, fun b hb => by
    rw [w5.block b (by omega), x4.block b (by omega), c3.block b (by omega) (fun e => by
      rcases e with e | e
      · omega
      · exact ob_nil e), x2.block b (by omega), n1.block b hb]⟩
theorem of_q {D : Nat → Prop} {h : Heap} {x : Value} {ms : List (List UInt8)} {pv : List Value} (hx : PD D h x ms pv) (hD : ∀ b, D b → b < h.size) (hms : ms.flatten.length ≤ 100000000000000) :
    FxQ Tryz.prog 120 #[x] h (.agg ((Sha.digest ms.flatten).map u8v).toArray) := fun _ x1 =>
  of_fn (hx.keep (x1.chg (S := fun _ => False)) (fun _ _ e => e)) (fun b hb => Nat.lt_of_lt_of_le (hD b hb) x1.size) hms
end Go.Proofs.YtkdmpdbbcgdfkaaGreatDoor
