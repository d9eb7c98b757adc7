/-
  The contracts of the document's Alike, eight, Pad, and of the laws' num.
-/
import Derived.Test.YtgecapllodgdeaaGreatDoorShaCore7
namespace Go.Proofs.YtgecapllodgdeaaGreatDoor
open Go Vm
set_option maxRecDepth 100000
theorem RB.more {h h' : Heap} {v : Value} {l : List UInt8} (r : RB h v l) (e : ExtH h h') : RB h' v l := Src.more r e
theorem RB.get {h : Heap} {v : Value} {l : List UInt8} (r : RB h v l) (t : Nat) (hlt : t < l.length) : ∃ b o c, v = .slice (some ⟨b, o, none⟩) l.length c ∧ rd h ⟨b, o + t, none⟩ = some (u8v (l.getD t 0)) := by
  rcases r.cases with ⟨_, rfl⟩ | ⟨A, cap, rfl, hc, hm, hr⟩
  · simp at hlt
  · have hs := hr.spot (by intro e; have := List.map_eq_nil_iff.1 e; subst this; simp at hlt)
    refine ⟨A.block, A.off, cap, by rw [← hs], ?_⟩
    rw [hs, rdA_plain] at hr
    exact hr t _ (map_get u8v l t 0 hlt)
theorem RB.max {h : Heap} {v : Value} {l : List UInt8} (r : RB h v l) : l.length ≤ maxLen := by
  rcases r.cases with ⟨_, rfl⟩ | ⟨A, cap, rfl, hc, hm, hr⟩
  · exact Nat.zero_le _
  · omega
theorem take_succ_eq {l m : List UInt8} {t : Nat} (hl : t < l.length) (hm : t < m.length) (h : l.take t = m.take t) : (l.take (t + 1) = m.take (t + 1)) ↔ l.getD t 0 = m.getD t 0 := by
  have e1 : l.take (t + 1) = l.take t ++ [l[t]] := by rw [List.take_add_one, List.getElem?_eq_getElem hl]; rfl
  have e2 : m.take (t + 1) = m.take t ++ [m[t]] := by rw [List.take_add_one, List.getElem?_eq_getElem hm]; rfl
  rw [e1, e2, h]
  rw [List.getD_eq_getElem?_getD, List.getD_eq_getElem?_getD, List.getElem?_eq_getElem hl, List.getElem?_eq_getElem hm]
  simp only [List.append_cancel_left_eq, List.cons.injEq, and_true, Option.getD_some]
theorem u8_ne (a b : UInt8) : (((a.toNat : Int)) != (b.toNat : Int)) = !decide (a = b) := by
  by_cases h : a = b
  · subst h; simp
  · have : a.toNat ≠ b.toNat := fun e => h (UInt8.toNat_inj.1 e)
    simp [h]
    exact_mod_cast this
theorem eight_take (n t : Nat) (ht : t < 8) : (Sha.eight n).take (t + 1) = (Sha.eight n).take t ++ [UInt8.ofNat (n / 2 ^ (56 - 8 * t))] := by
  have : t = 0 ∨ t = 1 ∨ t = 2 ∨ t = 3 ∨ t = 4 ∨ t = 5 ∨ t = 6 ∨ t = 7 := by omega
  rcases this with rfl | rfl | rfl | rfl | rfl | rfl | rfl | rfl <;> simp [Sha.eight]
/-- a row that was just made, read -/
theorem RB.of_newed {h h' : Heap} {c : Array Value} {l : List UInt8} {k : Nat} (n : Newed h h' (.cells c 5)) (hc : c.toList = l.map u8v) (hk : k = l.length) (hm : l.length ≤ maxLen) : RB h' (.slice (some ⟨h.size, 0, none⟩) k k) l := by
  subst hk
  refine ⟨by simp, .inr ⟨⟨h.size, 0, none⟩, l.length, rfl, Nat.le_refl _, hm, rdA_plain.2 ?_⟩⟩
  rw [← hc]
  exact n.blk.all
theorem reight_fn (n : Nat) (h : Heap) :
    Fx Tryz.prog 70 #[.int .u64 (n : Int)] h fun v' h' => OB h' v' (Sha.eight n) ∧ ExtH h h' ∧ ∀ b, ob v' b → h.size ≤ b := by
  refine fn_of 18 Tryz.func70 rfl (by kernel_rfl) rfl (by simp) ?_
  refine cw_seq (cw_region rfl ?_)
  refine cw_seq (cw_region rfl ?_)
  refine cw_seq (cw_seq (cw_region rfl ?_))
  conv => whnf
  refine cw_block ?_
  refine cw_loop (S := Nat × Value) (fun s => [(0, .int .u64 (n : Int)), (3, s.2), (4, .int .i64 (56 - 8 * (s.1 : Int)))])
    (fun s h' => s.1 ≤ 8 ∧ OB h' s.2 ((Sha.eight n).take s.1) ∧ ExtH h h' ∧ ∀ b, ob s.2 b → h.size ≤ b) (fun s => 8 - s.1) (0, .slice none 0 0) ⟨rfl, rfl, rfl, trivial⟩ ⟨by simp, OB.nil h, ExtH.refl h, fun b hb => (ob_nil hb).elim⟩ ?_
  rintro ⟨t, v⟩ h1 ⟨ht, o1, x1, f1⟩
  simp only [] at ht o1 f1
  refine cw_seq (cw_seq (cw_region rfl ?_))
  conv => whnf
  by_cases hlt : t < 8
  · refine cw_yes rfl (by show (0 : Int) ≤ _; omega) (cw_skip ?_)
    refine cw_seq (cw_block (cw_region rfl ?_))
    conv => whnf
    have e1 := u64_in (56 - 8 * (t : Int)) (56 - 8 * t) (by omega) (by omega)
    refine ⟨by rw [e1]; omega, ?_⟩
    conv => whnf
    refine ⟨_, rfl, #[.int .u8 (IntKind.u8.wrap ((n : Int) / 2 ^ min (IntKind.u64.wrap (56 - 8 * (t : Int))).toNat 64))], 5, fun w => by kernel_rfl, ?_⟩
    have e2 : Value.int .u8 (IntKind.u8.wrap ((n : Int) / 2 ^ min (IntKind.u64.wrap (56 - 8 * (t : Int))).toNat 64)) = u8v (UInt8.ofNat (n / 2 ^ (56 - 8 * t))) := by
      rw [e1, show min (((56 - 8 * t : Nat) : Int)).toNat 64 = 56 - 8 * t by omega, show (n : Int) / 2 ^ (56 - 8 * t) = ((n / 2 ^ (56 - 8 * t) : Nat) : Int) by simp, wrap8_nat]
      rfl
    intro h2 n2
    have r2 : RB h2 (.slice (some ⟨h1.size, 0, none⟩) 1 1) [UInt8.ofNat (n / 2 ^ (56 - 8 * t))] := RB.of_newed n2 (by simp [e2]) rfl (by show 1 ≤ maxLen; decide)
    have x2 := n2.ext
    conv => whnf
    have hl8 := Sha.eight_length n
    refine ⟨_, rfl, _, append_bytes (ty := 33) (OwnS.more o1 x2) r2 (by simp; omega), ?_⟩
    rintro v3 h3 ⟨o3, c3, f3⟩
    have z1 := x1.size; have z2 := n2.size; have z3 := c3.size
    refine cw_region rfl ?_
    refine ⟨(t + 1, v3), ⟨rfl, rfl, congrArg (fun i => some (Value.int .i64 i)) ?_, trivial⟩, ⟨by show t + 1 ≤ 8; omega, ?_, ?_, ?_⟩, by show 8 - (t + 1) < 8 - t; omega⟩
    · show IntKind.i64.wrap _ = _
      rw [i64_in _ (by omega) (by omega)]
      simp only []
      omega
    · simp only []
      rw [eight_take n t hlt]
      exact o3
    · exact ⟨by omega, fun b hb => by rw [c3.block b (by omega) (fun e => by have := f1 b e; omega), n2.block b (by omega), x1.block b hb]⟩
    · intro b hb
      rcases f3 b hb with e | e
      · exact f1 b e
      · omega
  · refine cw_no rfl (by show ¬ (0 : Int) ≤ _; omega) (cw_exit ?_)
    have t8 : t = 8 := by omega
    subst t8
    refine cw_seq (cw_region rfl ?_)
    refine cw_ret ⟨?_, x1, f1⟩
    exact o1
theorem zeros_step (n k : Nat) (hk : k < Sha.zeros n) : (n + (1 + k) + 8) % 64 ≠ 0 := by unfold Sha.zeros at hk; omega
theorem zeros_end (n : Nat) : (n + (1 + Sha.zeros n) + 8) % 64 = 0 := by unfold Sha.zeros; omega
theorem rpad_no (n : Nat) (hn : 2305843009213693951 < n) (h : Heap) :
    Fx Tryz.prog 101 #[.int .u64 (n : Int)] h fun v' h' => v' = .tuple #[.slice none 0 0, .int .i64 21] ∧ h' = h := by
  refine fn_of 24 Tryz.func101 rfl (by kernel_rfl) rfl (by simp) ?_
  refine cw_seq (cw_region rfl ?_)
  refine cw_seq (cw_seq (cw_region rfl ?_))
  refine cw_yes rfl (by omega) ?_
  refine cw_seq (cw_region rfl ?_)
  exact cw_ret ⟨rfl, rfl⟩
theorem rpad_yes (n : Nat) (hn : n ≤ 2305843009213693951) (h : Heap) :
    Fx Tryz.prog 101 #[.int .u64 (n : Int)] h fun v' h' => ∃ v, v' = .tuple #[v, .int .i64 0] ∧ OB h' v (Sha.pad n) ∧ ExtH h h' ∧ ∀ b, ob v b → h.size ≤ b := by
  refine fn_of 24 Tryz.func101 rfl (by kernel_rfl) rfl (by simp) ?_
  refine cw_seq (cw_region rfl ?_)
  refine cw_seq (cw_seq (cw_region rfl ?_))
  refine cw_no rfl (by omega) (cw_skip ?_)
  refine cw_seq (cw_region rfl ?_)
  conv => whnf
  refine ⟨_, rfl, #[u8v 128], 5, fun w => by kernel_rfl, ?_⟩
  intro h1 n1
  have o1 : OB h1 (.slice (some ⟨h.size, 0, none⟩) 1 1) (128 :: List.replicate 0 0) := OB.of_new (l := [128]) (tl := []) n1 rfl rfl (by decide)
  have hz : Sha.zeros n < 64 := by unfold Sha.zeros; omega
  conv => whnf
  refine cw_seq (cw_block ?_)
  refine cw_loop (S := Nat × Value) (fun s => [(0, .int .u64 (n : Int)), (4, s.2)])
    (fun s h' => s.1 ≤ Sha.zeros n ∧ OB h' s.2 (128 :: List.replicate s.1 0) ∧ ExtH h h' ∧ ∀ b, ob s.2 b → h.size ≤ b) (fun s => Sha.zeros n - s.1) (0, .slice (some ⟨h.size, 0, none⟩) 1 1) ⟨rfl, rfl, trivial⟩
    ⟨Nat.zero_le _, o1, n1.ext, fun b hb => by rw [ob_slice] at hb; omega⟩ ?_
  clear o1 n1 h1
  rintro ⟨t, v⟩ h1 ⟨ht, o1, x1, f1⟩
  simp only [] at ht o1 f1
  obtain ⟨a1, c1, e1⟩ := o1.r.len
  simp only [List.length_cons, List.length_replicate] at e1
  refine cw_seq (cw_seq (cw_region rfl ?_))
  subst e1
  conv => whnf
  refine ⟨by decide, ?_⟩
  have w1 := u64_in ((t + 1 : Nat) : Int) (t + 1) rfl (by omega)
  have w2 := u64_in ((n : Int) + IntKind.u64.wrap ((t + 1 : Nat) : Int)) (n + (t + 1)) (by rw [w1]; omega) (by omega)
  have w3 := u64_in (IntKind.u64.wrap ((n : Int) + IntKind.u64.wrap ((t + 1 : Nat) : Int)) + 8) (n + (t + 1) + 8) (by rw [w2]; omega) (by omega)
  have w4 : (IntKind.u64.wrap (IntKind.u64.wrap ((n : Int) + IntKind.u64.wrap ((t + 1 : Nat) : Int)) + 8)).tmod 64 = (((n + (t + 1) + 8) % 64 : Nat) : Int) := by
    rw [w3, Int.tmod_eq_emod_of_nonneg (by omega)]; omega
  by_cases hlt : t < Sha.zeros n
  · have hs := zeros_step n t hlt
    refine cw_bne_yes rfl (by rw [w4]; omega) (cw_skip ?_)
    refine cw_block (cw_region rfl ?_)
    conv => whnf
    refine ⟨_, rfl, #[u8v 0], 5, fun w => by kernel_rfl, ?_⟩
    intro h2 n2
    have r2 : RB h2 (.slice (some ⟨h1.size, 0, none⟩) 1 1) [0] := RB.of_newed n2 rfl rfl (by decide)
    have x2 := n2.ext
    conv => whnf
    refine ⟨_, rfl, _, append_bytes (ty := 33) (OwnS.more o1 x2) r2 (by simp; omega), ?_⟩
    rintro v3 h3 ⟨o3, c3, f3⟩
    have z1 := x1.size; have z2 := n2.size; have z3 := c3.size
    refine ⟨(t + 1, v3), ⟨rfl, rfl, trivial⟩, ⟨hlt, ?_, ?_, ?_⟩, by show Sha.zeros n - (t + 1) < Sha.zeros n - t; omega⟩
    · simp only []
      rw [List.replicate_succ']
      exact o3
    · exact ⟨by omega, fun b hb => by rw [c3.block b (by omega) (fun e => by have := f1 b e; omega), n2.block b (by omega), x1.block b hb]⟩
    · intro b hb
      rcases f3 b hb with e | e
      · exact f1 b e
      · omega
  · have tz : t = Sha.zeros n := by omega
    subst tz
    have hs := zeros_end n
    refine cw_bne_no rfl (by rw [w4]; omega) (cw_exit ?_)
    refine cw_seq (cw_region rfl ?_)
    have e8 := u64_in (8 * (n : Int)) (8 * n) (by omega) (by omega)
    conv => whnf
    rw [e8]
    refine ⟨_, rfl, _, reight_fn (8 * n) h1, ?_⟩
    rintro v3 h3 ⟨o3, x3, f3⟩
    conv => whnf
    have hl8 := Sha.eight_length (8 * n)
    refine ⟨_, rfl, _, append_bytes (ty := 33) (OwnS.more o1 x3) o3.r (by simp; omega), ?_⟩
    rintro v4 h4 ⟨o4, c4, f4⟩
    have z1 := x1.size; have z3 := x3.size; have z4 := c4.size
    refine cw_ret ⟨v4, rfl, o4, ?_, ?_⟩
    · exact ⟨by omega, fun b hb => by rw [c4.block b (by omega) (fun e => by have := f1 b e; omega), x3.block b (by omega), x1.block b hb]⟩
    · intro b hb
      rcases f4 b hb with e | e
      · exact f1 b e
      · omega
end Go.Proofs.YtgecapllodgdeaaGreatDoor
