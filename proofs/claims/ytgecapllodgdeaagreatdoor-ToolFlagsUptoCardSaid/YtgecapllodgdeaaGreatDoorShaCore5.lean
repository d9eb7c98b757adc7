/-
  The contracts of package sha's Write, Len, Reset, Of, State.
-/
import Derived.Test.YtgecapllodgdeaaGreatDoorShaCore4
namespace Go.Proofs.YtgecapllodgdeaaGreatDoor
open Go Vm
set_option maxRecDepth 100000
/-- bytes that are read, in blocks of D -/
def RD (D : Nat → Prop) (h : Heap) (v : Value) (l : List UInt8) : Prop := RB h v l ∧ (l ≠ [] → ∀ b, ob v b → D b)
theorem Src.keep0 {S : Nat → Prop} {h h' : Heap} {k : Nat} {v : Value} {n : Nat} {xs : List Value} (H : Src h k v n xs) (c : Chg S h h') (hn : xs ≠ [] → ∀ b, ob v b → ¬ S b) : Src h' k v n xs := by
  by_cases hx : xs = []
  · subst hx
    refine ⟨H.1, ?_⟩
    rcases H.2 with h0 | ⟨A, cap, rfl, hc, hm, hr⟩
    · exact .inl h0
    · exact .inr ⟨A, cap, rfl, hc, hm, fun j v hj => by simp at hj⟩
  · exact H.keep c (hn hx)
theorem RD.keep {D S : Nat → Prop} {h h' : Heap} {v : Value} {l : List UInt8} (H : RD D h v l) (c : Chg S h h') (hD : ∀ b, D b → ¬ S b) : RD D h' v l :=
  ⟨Src.keep0 H.1 c (fun hx b hb => hD b (H.2 (by simpa using hx) b hb)), H.2⟩
/-- a list of parts that are read, in blocks of D -/
structure PD (D : Nat → Prop) (h : Heap) (x : Value) (ms : List (List UInt8)) (pv : List Value) : Prop where
  src : Src h 1 x ms.length pv
  out : ms ≠ [] → ∀ b, ob x b → D b
  part : ∀ (i : Nat) (m : List UInt8), ms[i]? = some m → ∃ v, pv[i]? = some v ∧ RD D h v m
theorem PD.keep {D S : Nat → Prop} {h h' : Heap} {x : Value} {ms : List (List UInt8)} {pv : List Value} (H : PD D h x ms pv) (c : Chg S h h') (hD : ∀ b, D b → ¬ S b) : PD D h' x ms pv := by
  refine ⟨Src.keep0 H.src c (fun hx b hb => hD b (H.out (fun e => hx ?_) b hb)), H.out, fun i m hi => ?_⟩
  · subst e
    have := H.src.1
    exact List.eq_nil_of_length_eq_zero (by simpa using this)
  · obtain ⟨v, h1, h2⟩ := H.part i m hi
    exact ⟨v, h1, h2.keep c hD⟩
theorem PD.form {D : Nat → Prop} {h : Heap} {x : Value} {ms : List (List UInt8)} {pv : List Value} (H : PD D h x ms pv) : (x = .slice none 0 0 ∧ ms = []) ∨ ∃ A cap, x = .slice (some A) ms.length cap ∧ ms.length ≤ cap ∧ cap ≤ maxLen ∧ rdA h A pv := by
  rcases H.src.2 with ⟨rfl, h0⟩ | ⟨A, cap, rfl, h1, h2, h3⟩
  · exact .inl ⟨rfl, List.eq_nil_of_length_eq_zero h0⟩
  · exact .inr ⟨A, cap, rfl, h1, h2, h3⟩
def upto (ms : List (List UInt8)) (t : Nat) : List UInt8 := (ms.take t).flatten
theorem upto_zero (ms : List (List UInt8)) : upto ms 0 = [] := rfl
theorem upto_all (ms : List (List UInt8)) : upto ms ms.length = ms.flatten := by simp [upto]
theorem upto_succ (ms : List (List UInt8)) (t : Nat) (m : List UInt8) (h : ms[t]? = some m) : upto ms (t + 1) = upto ms t ++ m := by
  unfold upto
  rw [List.take_add_one, h]
  simp
theorem upto_le (ms : List (List UInt8)) (t : Nat) : (upto ms t).length ≤ ms.flatten.length := by
  have := congrArg (fun l => l.flatten.length) (List.take_append_drop t ms)
  simp only [List.flatten_append, List.length_append] at this
  unfold upto
  omega
theorem write_fn {D : Nat → Prop} {h : Heap} {p : Nat} {v x : Value} {s : Sha.S8} {l : List UInt8} {n : Nat} {ms : List (List UInt8)} {pv : List Value} (H : HashAt h p v s l n) (hx : PD D h x ms pv)
    (hD : ∀ b, D b → b < h.size ∧ b ≠ p ∧ ¬ ob v b) (hl : l.length < 64) (hms : ms.flatten.length ≤ 100000000000000) (hn : n + ms.flatten.length ≤ 2305843009213693951) :
    Fx Tryz.prog 67 #[.pointer (some ⟨p, 0, none⟩), x] h fun u h' => u = .int .i64 0 ∧ ∃ v', HashAt h' p v' (Sha.feed s (l ++ ms.flatten)) (Sha.rest (l ++ ms.flatten)) (n + ms.flatten.length) ∧
      Chg (fun b => b = p ∨ ob v b) h h' ∧ ∀ b, ob v' b → ob v b ∨ h.size ≤ b := by
  refine fn_of 46 Tryz.func67 rfl (by kernel_rfl) rfl (by simp) ?_
  refine cw_seq (cw_region rfl ?_)
  refine cw_seq (cw_seq (cw_region rfl ?_))
  conv => whnf
  refine ⟨.bool false, fun w => by kernel_rfl, ?_⟩
  refine cw_false rfl (cw_skip ?_)
  refine cw_seq (cw_region rfl ?_)
  conv => whnf
  refine ⟨_, rfl, _, ready_fn (H.blk.rd rfl), ?_⟩
  rintro _ h0 ⟨rfl, e⟩
  subst h0
  conv => whnf
  refine cw_seq (cw_region rfl ?_)
  conv => whnf
  refine ⟨_, H.blk.rd (o := 10) rfl, ?_⟩
  have hlen : ms.length ≤ maxLen := by
    rcases hx.form with ⟨rfl, rfl⟩ | ⟨A, cap, rfl, hc, hm, hr⟩
    · exact Nat.zero_le _
    · omega
  have hfx : ∃ a c, x = .slice a ms.length c := by
    rcases hx.form with ⟨rfl, rfl⟩ | ⟨A, cap, rfl, hc, hm, hr⟩
    · exact ⟨_, _, rfl⟩
    · exact ⟨_, _, rfl⟩
  have hmax : maxLen < 9223372036854775808 := by decide
  obtain ⟨a, c, hfx⟩ := hfx
  refine cw_seq (cw_seq (cw_region rfl ?_))
  subst hfx
  conv => whnf
  refine cw_block ?_
  refine cw_loop (S := Nat) (fun t => [(0, .pointer (some ⟨p, 0, none⟩)), (1, .slice a ms.length c), (5, .int .u64 ((n + (upto ms t).length : Nat) : Int)), (18, .slice a ms.length c), (19, .int .i64 (ms.length : Int)), (20, .int .i64 (t : Int))])
    (fun t h' => t ≤ ms.length ∧ h' = h) (fun t => ms.length - t) 0 ⟨rfl, rfl, rfl, rfl, rfl, rfl, trivial⟩ ⟨by omega, rfl⟩ ?_
  rintro t h0 ⟨ht, e⟩
  subst h0
  refine cw_seq (cw_region rfl ?_)
  have row : ∀ {h' : Heap}, PD D h' (.slice a ms.length c) ms pv → ∀ (t : Nat), t < ms.length → ∃ b o m v, a = some ⟨b, o, none⟩ ∧ ms[t]? = some m ∧ rd h' ⟨b, o + t, none⟩ = some v ∧ RD D h' v m := fun hx t hlt => by
    obtain ⟨v, h1, h2⟩ := hx.part t ms[t] (List.getElem?_eq_getElem hlt)
    rcases hx.form with ⟨h3, h4⟩ | ⟨A, cap, h3, hc, hm, hr⟩
    · rw [h4] at hlt; simp at hlt
    · injection h3 with h3
      have hs := hr.spot (by intro e; subst e; simp at h1)
      rw [hs, rdA_plain] at hr
      exact ⟨A.block, A.off, _, v, by rw [← hs]; exact h3, List.getElem?_eq_getElem hlt, hr t v h1, h2⟩
  by_cases hlt : t < ms.length
  · refine cw_seq (cw_yes rfl (by omega) (cw_skip ?_))
    obtain ⟨b, o, m, u, rfl, hm, hr, hu⟩ := row hx t hlt
    refine cw_seq (cw_block (cw_seq (cw_region rfl ?_)))
    conv => whnf
    refine ⟨⟨by omega, by omega⟩, ?_⟩
    conv => whnf
    refine ⟨_, hr, ?_⟩
    conv => whnf
    obtain ⟨ua, uc, hue⟩ := hu.1.len
    have hsucc := upto_succ ms t m hm
    have hle := upto_le ms (t + 1)
    have hle' : (upto ms (t + 1)).length = (upto ms t).length + m.length := by rw [hsucc]; simp
    refine cw_seq (cw_region rfl ?_)
    subst hue
    conv => whnf
    have e1 := u64_in (m.length : Int) m.length rfl (by omega)
    have e2 := u64_in (((n + (upto ms t).length : Nat) : Int) + IntKind.u64.wrap (m.length : Int)) (n + (upto ms (t + 1)).length) (by rw [e1]; omega) (by omega)
    refine cw_seq (cw_region rfl ?_)
    conv => whnf
    refine cw_no rfl (by omega) (cw_skip ?_)
    refine cw_region rfl ?_
    exact ⟨t + 1, ⟨rfl, rfl, congrArg (fun i => some (Value.int .u64 i)) e2, rfl, rfl, slot_i64 _ _ (by omega) (by omega), trivial⟩, ⟨by omega, rfl⟩, by omega⟩
  · refine cw_seq (cw_no rfl (by omega) (cw_exit ?_))
    have tn : t = ms.length := by omega
    subst tn
    clear hlt ht
    rw [upto_all]
    refine cw_seq (cw_seq (cw_region rfl ?_))
    conv => whnf
    refine cw_block ?_
    refine cw_loop (S := Nat) (fun t => [(0, .pointer (some ⟨p, 0, none⟩)), (5, .int .u64 ((n + ms.flatten.length : Nat) : Int)), (32, .slice a ms.length c), (33, .int .i64 (ms.length : Int)), (34, .int .i64 (t : Int))])
      (fun t h' => t ≤ ms.length ∧ ∃ v', HashAt h' p v' (Sha.feed s (l ++ upto ms t)) (Sha.rest (l ++ upto ms t)) n ∧ Chg (fun b => b = p ∨ ob v b) h h' ∧ ∀ b, ob v' b → ob v b ∨ h.size ≤ b) (fun t => ms.length - t) 0
      ⟨rfl, rfl, rfl, rfl, rfl, trivial⟩ ⟨by omega, v, ?_, ⟨Nat.le_refl _, fun _ _ _ => rfl⟩, fun b hb => .inl hb⟩ ?_
    · rw [upto_zero, List.append_nil, Sha.feed_lt s hl, Sha.rest_short hl]
      exact H
    rintro t h1 ⟨ht, v1, H1, c1, f1⟩
    have hx1 : PD D h1 (.slice a ms.length c) ms pv := hx.keep c1 (fun b hb e => by
      obtain ⟨h2, h3, h4⟩ := hD b hb
      rcases e with e | e
      · exact h3 e
      · exact h4 e)
    refine cw_seq (cw_region rfl ?_)
    by_cases hlt : t < ms.length
    · refine cw_seq (cw_yes rfl (by omega) (cw_skip ?_))
      obtain ⟨b, o, m, u, rfl, hm, hr, hu⟩ := row hx1 t hlt
      refine cw_seq (cw_block (cw_seq (cw_region rfl ?_)))
      conv => whnf
      refine ⟨⟨by omega, by omega⟩, ?_⟩
      conv => whnf
      refine ⟨_, hr, ?_⟩
      conv => whnf
      have hsucc := upto_succ ms t m hm
      have hle := upto_le ms (t + 1)
      have hle' : (upto ms (t + 1)).length = (upto ms t).length + m.length := by rw [hsucc]; simp
      have hrl := Sha.rest_lt (l ++ upto ms t)
      refine cw_region rfl ?_
      conv => whnf
      refine ⟨_, rfl, _, take_fn H1 hu.1 (by omega), ?_⟩
      rintro _ h2 ⟨v2, H2, c2, f2⟩
      have z1 := c1.size
      refine cw_region rfl ?_
      refine ⟨t + 1, ⟨rfl, rfl, rfl, rfl, slot_i64 _ _ (by omega) (by omega), trivial⟩, ⟨by omega, v2, ?_, ?_, fun b hb => .inr ?_⟩, by omega⟩
      · rw [← Sha.feed_app, Sha.rest_app, List.append_assoc, ← hsucc] at H2
        exact H2
      · refine (c1.trans c2).mono (fun b hb e => ?_)
        rcases e with e | e | e
        · exact e
        · exact .inl e
        · rcases f1 b e with e | e
          · exact .inr e
          · omega
      · have := f2 b hb; omega
    · refine cw_seq (cw_no rfl (by omega) (cw_exit ?_))
      have tn : t = ms.length := by omega
      subst tn
      rw [upto_all] at H1
      refine cw_seq (cw_region rfl ?_)
      conv => whnf
      refine ⟨_, _, H1.blk, (show (10 : Nat) < 11 by decide), ?_⟩
      intro h2 w2
      replace w2 := w2.cast (l' := hashC (Sha.feed s (l ++ ms.flatten)) v1 (n + ms.flatten.length)) rfl
      have hne := H1.ne
      refine cw_seq (cw_region rfl ?_)
      refine cw_ret ?_
      exact ⟨rfl, v1, ⟨w2.new, OwnS.keep H1.own w2.chg (fun b hb e => hne (e ▸ hb))⟩, (c1.trans w2.chg).mono (fun b _ e => by
        rcases e with e | e
        · exact e
        · exact .inl e), f1⟩
end Go.Proofs.YtgecapllodgdeaaGreatDoor
