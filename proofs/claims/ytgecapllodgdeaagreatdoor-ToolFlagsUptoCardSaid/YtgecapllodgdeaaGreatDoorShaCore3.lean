/-
  The contract of package sha's take.
-/
import Derived.Test.YtgecapllodgdeaaGreatDoorShaCore2
namespace Go.Proofs.YtgecapllodgdeaaGreatDoor
open Go Vm
set_option maxRecDepth 100000
theorem compress_q (s : Sha.S8) (l : List UInt8) (hl : l.length = 64) (h : Heap) : FxQ Tryz.prog 125 #[.agg (s.list.map u32v).toArray, .agg (l.map u8v).toArray] h (.agg ((Sha.compress s l).list.map u32v).toArray) :=
  fun h1 _ => compress_fn s l hl h1
theorem hashC_set (s : Sha.S8) (v w : Value) (n : Nat) : (hashC s v n).set 9 w = hashC s w n := rfl
theorem hashC_splice (s t : Sha.S8) (v : Value) (n : Nat) : splice (hashC s v n) 1 (t.list.map u32v) = hashC t v n := rfl
theorem HashAt.buf {h : Heap} {p : Nat} {v : Value} {s : Sha.S8} {l : List UInt8} {n : Nat} (H : HashAt h p v s l n) : rd h ⟨p, 9, none⟩ = some v := H.blk.rd rfl
theorem HashAt.words {h : Heap} {p : Nat} {v : Value} {s : Sha.S8} {l : List UInt8} {n : Nat} (H : HashAt h p v s l n) : rdN h p 1 (s.list.map u32v) := H.blk.rdN 1 _ rfl
theorem RB.len {h : Heap} {v : Value} {l : List UInt8} (r : RB h v l) : ∃ a c, v = .slice a l.length c := by
  rcases r.cases with ⟨rfl, rfl⟩ | ⟨A, cap, rfl, _⟩
  · exact ⟨_, _, rfl⟩
  · exact ⟨_, _, rfl⟩
theorem OB.cases {h : Heap} {v : Value} {l : List UInt8} (r : OB h v l) : (v = .slice none 0 0 ∧ l = []) ∨ ∃ b cap tl, v = .slice (some ⟨b, 0, none⟩) l.length cap ∧ l.length ≤ cap ∧ cap ≤ maxLen ∧ Blk h b (l.map u8v ++ tl) 5 ∧ l.length + tl.length = cap := by
  rcases r.2 with ⟨rfl, h0⟩ | ⟨g, cap, tl, rfl, hb, hc, hm, hl⟩
  · exact .inl ⟨rfl, List.eq_nil_of_length_eq_zero h0⟩
  · exact .inr ⟨g, cap, tl, rfl, hc, hm, hb, by simpa using hl⟩
/-- a part of the bytes -/
theorem OB.part {h : Heap} {b : Nat} {l : List UInt8} {tl : List Value} (hb : Blk h b (l.map u8v ++ tl) 5) (i j : Nat) (hi : i ≤ j) (hj : j ≤ l.length) :
    rdN h b i (((l.drop i).take (j - i)).map u8v) := by
  refine hb.rdN i _ ?_
  rw [List.drop_append_of_le_length (by simp; omega), List.take_append_of_le_length (by simp; omega)]
  simp only [List.length_map, List.length_take, List.length_drop]
  rw [show min (j - i) (l.length - i) = j - i by omega, List.map_take, List.map_drop]
/-- a part of a slice, as the program cuts it -/
theorem RB.cut {h : Heap} {a : Option Addr} {n c : Nat} {l : List UInt8} (r : RB h (.slice a n c) l) (i j : Nat) (hi : i ≤ j) (hj : j ≤ l.length) {x y : Int} (ex : x = i) (ey : y = j) :
    (0 ≤ x ∧ x ≤ y ∧ y ≤ (c : Int)) ∧ ∃ A, (if c = x.toNat then a else a.map (·.add (x.toNat * 1))) = A ∧ RB h (.slice A (y.toNat - x.toNat) (c - x.toNat)) ((l.drop i).take (j - i)) := by
  subst ex ey
  have hlen : ((l.drop i).take (j - i)).length = j - i := by simp; omega
  rcases r.cases with ⟨h1, rfl⟩ | ⟨X, cap, h1, hc, hm, hr⟩
  · injection h1 with h1 h2 h3
    subst h1 h2 h3
    have hj0 : j = 0 := by simpa using hj
    have hi0 : i = 0 := by omega
    subst hj0 hi0
    exact ⟨⟨by omega, by omega, by omega⟩, none, rfl, rfl, .inl ⟨rfl, rfl⟩⟩
  · injection h1 with h1 h2 h3
    subst h1 h2 h3
    refine ⟨⟨by omega, by omega, by omega⟩, ?_⟩
    by_cases he : c = i
    · refine ⟨some X, by rw [if_pos (by omega)], by simp, .inr ⟨X, c - i, ?_, ?_, ?_, ?_⟩⟩
      · rw [hlen]; congr 1 <;> omega
      · omega
      · omega
      · have : (l.drop i).take (j - i) = [] := List.eq_nil_of_length_eq_zero (by omega)
        rw [this]
        intro j v hj; simp at hj
    · refine ⟨some (X.add i), ?_, by simp, .inr ⟨X.add i, c - i, ?_, ?_, ?_, ?_⟩⟩
      · rw [if_neg (by omega)]
        show some (Addr.add X ((i : Int).toNat * 1)) = _
        rw [show (i : Int).toNat * 1 = i by omega]
      · rw [hlen]; congr 1 <;> omega
      · omega
      · omega
      · intro t v ht
        rw [add_add]
        refine hr (i + t) v ?_
        rw [List.map_take, List.map_drop, List.getElem?_take] at ht
        split at ht
        · rwa [List.getElem?_drop] at ht
        · cases ht
theorem take_fn {h : Heap} {p : Nat} {v x : Value} {s : Sha.S8} {l m : List UInt8} {n : Nat} (H : HashAt h p v s l n) (hx : RB h x m) (hl : l.length + m.length ≤ 140737488355328) :
    Fx Tryz.prog 98 #[.pointer (some ⟨p, 0, none⟩), x] h fun _ h' => ∃ v', HashAt h' p v' (Sha.feed s (l ++ m)) (Sha.rest (l ++ m)) n ∧ Chg (fun b => b = p ∨ ob v b) h h' ∧ ∀ b, ob v' b → h.size ≤ b := by
  refine fn_of 52 Tryz.func98 rfl (by kernel_rfl) rfl (by simp) ?_
  refine cw_seq (cw_region rfl ?_)
  conv => whnf
  refine ⟨_, H.buf, ?_⟩
  conv => whnf
  refine ⟨_, rfl, _, append_bytes (ty := 33) H.own hx hl, ?_⟩
  rintro v1 h1 ⟨o1, c1, f1⟩
  obtain ⟨a1, k1, e1⟩ := o1.r.len
  have hpv := H.ne
  subst e1
  conv => whnf
  refine ⟨_, _, c1.blk H.blk hpv, (show (9 : Nat) < 11 from by decide), ?_⟩
  intro h2 w2
  generalize hv1 : Value.slice a1 (l ++ m).length k1 = v1 at *
  replace w2 := w2.cast (l' := hashC s v1 n) rfl
  have hp := H.blk.lt
  have n1 : ¬ ob v1 p := OwnS.ne o1 (c1.blk H.blk hpv) (by decide)
  have H2 : HashAt h2 p v1 (Sha.feedN s (l ++ m) 0) (l ++ m) n := ⟨w2.new, OwnS.keep o1 w2.chg (fun b hb e => n1 (e ▸ hb))⟩
  have c2 : Chg (fun b => b = p ∨ ob v b) h h2 := (c1.trans w2.chg).mono (fun b _ hb => hb.symm)
  have hlm : (l ++ m).length ≤ 140737488355328 := by simpa using hl
  generalize l ++ m = lm at *
  refine cw_seq (cw_region rfl ?_)
  conv => whnf
  refine cw_seq (cw_block ?_)
  refine cw_loop (S := Nat) (fun k => [(0, .pointer (some ⟨p, 0, none⟩)), (4, .int .i64 ((64 * k : Nat) : Int))])
    (fun k h3 => 64 * k ≤ lm.length ∧ HashAt h3 p v1 (Sha.feedN s lm k) lm n ∧ Chg (fun b => b = p ∨ ob v b) h h3) (fun k => lm.length - 64 * k) 0 ⟨rfl, rfl, trivial⟩ ⟨by omega, H2, c2⟩ ?_
  clear H2 c2 n1 w2 h2 c1 f1 o1 h1
  rintro k h3 ⟨hk, H3, c3⟩
  refine cw_seq (cw_seq (cw_region rfl ?_))
  conv => whnf
  refine ⟨_, H3.buf, ?_⟩
  subst hv1
  conv => whnf
  have i1 := i64_eq ((lm.length : Int) - ((64 * k : Nat) : Int)) (lm.length - 64 * k) (by omega) (by omega)
  by_cases hlt : 64 * k + 64 ≤ lm.length
  · refine cw_yes rfl (by omega) (cw_skip ?_)
    rcases H3.own.cases with ⟨_, hn⟩ | ⟨g, cap, tl, hvs, hc, hm, hg, hcl⟩
    · subst hn; simp at hlt
    injection hvs with ha _ hcap
    subst ha hcap
    refine cw_block (cw_seq ?_)
    have i2 := i64_eq (((64 * k : Nat) : Int) + 64) (64 * k + 64) (by omega) (by omega)
    refine cw_drawn (by kernel_rfl) 18 (fun _ => false) (List.range 18) (by kernel_rfl) rfl ?_
    conv => whnf
    refine ⟨_, by rfl, H3.words, ?_⟩
    conv => whnf
    refine ⟨_, H3.buf, ?_⟩
    conv => whnf
    refine ⟨⟨by omega, by omega, by omega⟩, some ⟨g, 64 * k, none⟩, ?_, ?_⟩
    · rw [if_neg (by omega)]
      show some (Addr.add ⟨g, 0, none⟩ (((64 * k : Nat) : Int).toNat * 1)) = _
      rw [add_none, show 0 + ((64 * k : Nat) : Int).toNat * 1 = 64 * k by omega]
    conv => whnf
    refine ⟨by show (64 : Nat) ≤ _; omega, ?_⟩
    conv => whnf
    refine ⟨_, Eq.trans (b := 64) (by simp; omega) rfl, OB.part hg (64 * k) (64 * k + 64) (by omega) (by omega), ?_⟩
    conv => whnf
    refine ⟨_, rfl, _, compress_q (Sha.feedN s lm k) ((lm.drop (64 * k)).take (64 * k + 64 - 64 * k)) (by simp; omega) h3, ?_⟩
    conv => whnf
    intro h4 x4
    conv => whnf
    refine ⟨_, _, x4.blk H3.blk, ⟨(show (9 : Nat) ≤ 11 by decide), rfl, by simp [u32v, Value.oneCell', Sha.S8.list]⟩, ?_⟩
    intro h5 w5
    replace w5 := w5.cast (l' := hashC (Sha.feedN s lm (k + 1)) (.slice (some ⟨g, 0, none⟩) lm.length k1) n) (by
      rw [show 64 * k + 64 - 64 * k = 64 by omega]; rfl)
    have hne := H3.ne
    have hgp : g ≠ p := fun e => hne (ob_slice.2 e.symm)
    refine cw_region rfl ?_
    refine ⟨k + 1, ⟨rfl, slot_i64 _ _ (by omega) (by omega), trivial⟩, ⟨by omega, ⟨w5.new, OwnS.keep (OwnS.more H3.own x4) w5.chg (fun b hb e => hne (e ▸ hb))⟩, ?_⟩, by omega⟩
    exact ((c3.trans (x4.chg (S := fun _ => False))).trans w5.chg (T := fun b => b = p)).mono (fun b _ hb => by
      rcases hb with (hb | hb) | hb
      · exact hb
      · exact hb.elim
      · exact .inl hb)
  · refine cw_no rfl (by omega) (cw_exit ?_)
    have hr : lm.length - 64 * k < 64 := by omega
    have hk' : k = lm.length / 64 := by omega
    refine cw_region rfl ?_
    conv => whnf
    refine ⟨_, H3.buf, ?_⟩
    conv => whnf
    have hcut := H3.own.r.cut (64 * k) lm.length hk (Nat.le_refl _) (x := ((64 * k : Nat) : Int)) (y := (lm.length : Int)) rfl rfl
    obtain ⟨A, hA, hR⟩ := hcut.2
    refine ⟨hcut.1, A, hA, ?_⟩
    conv => whnf
    refine ⟨_, rfl, _, append_bytes (ty := 33) (v := .slice none 0 0) (OB.nil h3) hR (by simp; omega), ?_⟩
    have er : [] ++ (lm.drop (64 * k)).take (lm.length - 64 * k) = Sha.rest lm := by
      rw [List.nil_append, List.take_of_length_le (by simp)]
      unfold Sha.rest
      rw [hk', Nat.mul_comm]
    have ef : Sha.feedN s lm k = Sha.feed s lm := by rw [Sha.feed_feedN, hk']
    rw [ef] at H3
    rw [er]
    rintro v4 h4 ⟨o4, c4, f4⟩
    obtain ⟨a4, k4, e4⟩ := o4.r.len
    subst e4
    have x4 : ExtH h3 h4 := c4.ext (fun b hb => (ob_nil hb).elim)
    conv => whnf
    refine ⟨_, _, x4.blk H3.blk, (show (9 : Nat) < 11 from by decide), ?_⟩
    intro h5 w5
    generalize hv4 : Value.slice a4 (Sha.rest lm).length k4 = v4 at *
    replace w5 := w5.cast (l' := hashC (Sha.feed s lm) v4 n) rfl
    have hs3 := c3.size
    have fr : ∀ b, ob v4 b → h.size ≤ b := fun b hb => by
      rcases f4 b hb with h6 | h6
      · exact (ob_nil h6).elim
      · omega
    refine ⟨v4, ⟨w5.new, OwnS.keep o4 w5.chg (fun b hb e => ?_)⟩, ?_, fr⟩
    · have := fr b hb; omega
    · exact ((c3.trans (x4.chg (S := fun _ => False))).trans w5.chg (T := fun b => b = p)).mono (fun b _ hb => by
        rcases hb with (hb | hb) | hb
        · exact hb
        · exact hb.elim
        · exact .inl hb)
end Go.Proofs.YtgecapllodgdeaaGreatDoor
