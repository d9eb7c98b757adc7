/-
  The contracts of package sha's Pad, New, ready, take, Clone, Sum.
-/
import Derived.Test.YtgecapllodgdeaaGreatDoorShaCore1
namespace Go.Proofs.YtgecapllodgdeaaGreatDoor
open Go Vm
set_option maxRecDepth 100000
theorem u64_in (i : Int) (n : Nat) (e : i = n) (h : n < 18446744073709551616) : IntKind.u64.wrap i = (n : Int) := by
  subst e; simp [IntKind.wrap, IntKind.bits, IntKind.signed]; omega
theorem pad_no (n : Nat) (hn : 2305843009213693951 < n) (h : Heap) :
    Fx Tryz.prog 100 #[.int .u64 (n : Int)] h fun v' h' => v' = .tuple #[.slice none 0 0, .int .i64 21] ∧ h' = h := by
  refine fn_of 20 Tryz.func100 rfl (by kernel_rfl) rfl (by simp) ?_
  refine cw_seq (cw_region rfl ?_)
  refine cw_seq (cw_seq (cw_region rfl ?_))
  refine cw_yes rfl (by omega) ?_
  refine cw_seq (cw_region rfl ?_)
  exact cw_ret ⟨rfl, rfl⟩
theorem pad_yes (n : Nat) (hn : n ≤ 2305843009213693951) (h : Heap) :
    Fx Tryz.prog 100 #[.int .u64 (n : Int)] h fun v' h' => ∃ v, v' = .tuple #[v, .int .i64 0] ∧ OB h' v (Sha.pad n) ∧ ExtH h h' ∧ ∀ b, ob v b → h.size ≤ b := by
  refine fn_of 20 Tryz.func100 rfl (by kernel_rfl) rfl (by simp) ?_
  refine cw_seq (cw_region rfl ?_)
  refine cw_seq (cw_seq (cw_region rfl ?_))
  refine cw_no rfl (by omega) (cw_skip ?_)
  refine cw_seq (cw_region rfl ?_)
  conv => whnf
  refine ⟨by decide, ?_⟩
  conv => whnf
  refine ⟨by decide, ?_⟩
  conv => whnf
  have r1 : (n : Int).tmod 64 = ((n % 64 : Nat) : Int) := by rw [Int.tmod_eq_emod_of_nonneg (by omega)]; omega
  have r2 : IntKind.u64.wrap (119 - (n : Int).tmod 64) = ((119 - n % 64 : Nat) : Int) := u64_in _ _ (by rw [r1]; omega) (by omega)
  have r3 : (IntKind.u64.wrap (119 - (n : Int).tmod 64)).tmod 64 = ((Sha.zeros n : Nat) : Int) := by rw [r2, Int.tmod_eq_emod_of_nonneg (by omega)]; unfold Sha.zeros; omega
  have hz : Sha.zeros n < 64 := by unfold Sha.zeros; omega
  have r4 : IntKind.u64.wrap (1 + (IntKind.u64.wrap (119 - (n : Int).tmod 64)).tmod 64) = ((1 + Sha.zeros n : Nat) : Int) := u64_in _ _ (by rw [r3]; omega) (by omega)
  rw [r4]
  refine ⟨⟨by omega, by omega, by decide, by decide⟩, ?_⟩
  intro h1 n1
  have b1 : Blk h1 h.size (List.replicate 72 (u8v 0)) 5 := made8 (n := 72) n1.blk
  refine cw_seq (cw_region rfl ?_)
  conv => whnf
  refine ⟨⟨by decide, by show (0 : Int) < (((((1 + Sha.zeros n : Nat) : Int)).toNat : Nat) : Int); omega⟩, ?_⟩
  conv => whnf
  refine ⟨_, _, b1, by simp, ?_⟩
  intro h2 w2
  have e8 := u64_in (8 * (n : Int)) (8 * n) (by omega) (by omega)
  have o2 : OB h2 (.slice (some ⟨h.size, 0, none⟩) (1 + Sha.zeros n) 72) (128 :: List.replicate (Sha.zeros n) 0) := by
    refine ⟨by simp, .inr ⟨h.size, 72, List.replicate (71 - Sha.zeros n) (u8v 0), by simp; omega, ?_, by simp; omega, by simp [maxLen], by simp; omega⟩⟩
    have := w2.new
    have e : (List.replicate 72 (u8v 0)).set (0 + Int.toNat 0) (Value.int .u8 128) = (128 :: List.replicate (Sha.zeros n) (0 : UInt8)).map u8v ++ List.replicate (71 - Sha.zeros n) (u8v 0) := by
      simp only [List.map_cons, List.map_replicate, List.cons_append, List.replicate_append_replicate]
      rw [show Sha.zeros n + (71 - Sha.zeros n) = 71 by omega]
      rfl
    rw [← e]
    exact this
  refine cw_seq (cw_region rfl ?_)
  conv => whnf
  rw [e8]
  refine ⟨_, rfl, _, eight_fn (8 * n) h2, ?_⟩
  rintro v3 h3 ⟨o3, x3, f3⟩
  conv => whnf
  have o2' := OwnS.more o2 x3
  refine ⟨_, rfl, _, append_bytes (ty := 33) (v := .slice (some ⟨h.size, 0, none⟩) (1 + Sha.zeros n) 72) o2' o3.r (by simp [Sha.eight]; omega), ?_⟩
  rintro v4 h4 ⟨o4, c4, f4⟩
  refine cw_ret ?_
  refine ⟨v4, rfl, ?_, ?_, fun b hb => ?_⟩
  · simpa [Sha.pad] using o4
  · have z1 := n1.size; have z2 := w2.size; have z3 := x3.size; have z4 := c4.size
    exact ⟨by omega, fun b hb => by rw [c4.block b (by omega) (by rw [ob_slice]; omega), x3.block b (by omega), w2.block b (by omega), n1.block b hb]⟩
  · have z1 := n1.size; have z2 := w2.size; have z3 := x3.size
    rcases f4 b hb with h5 | h5
    · rw [ob_slice] at h5; omega
    · omega
/-- a hash's struct -/
def hashC (s : Sha.S8) (v : Value) (n : Nat) : List Value := [.bool true, u32v s.a, u32v s.b, u32v s.c, u32v s.d, u32v s.e, u32v s.f, u32v s.g, u32v s.h, v, .int .u64 (n : Int)]
structure HashAt (h : Heap) (p : Nat) (v : Value) (s : Sha.S8) (l : List UInt8) (n : Nat) : Prop where
  blk : Blk h p (hashC s v n) 226
  own : OB h v l
theorem HashAt.ne {h : Heap} {p : Nat} {v : Value} {s : Sha.S8} {l : List UInt8} {n : Nat} (H : HashAt h p v s l n) : ¬ ob v p := OwnS.ne H.own H.blk (by decide)
theorem HashAt.keep {S : Nat → Prop} {h h' : Heap} {p : Nat} {v : Value} {s : Sha.S8} {l : List UInt8} {n : Nat} (H : HashAt h p v s l n) (c : Chg S h h') (hp : ¬ S p) (hv : ∀ b, ob v b → ¬ S b) : HashAt h' p v s l n :=
  ⟨c.blk H.blk hp, OwnS.keep H.own c hv⟩
theorem HashAt.more {h h' : Heap} {p : Nat} {v : Value} {s : Sha.S8} {l : List UInt8} {n : Nat} (H : HashAt h p v s l n) (c : ExtH h h') : HashAt h' p v s l n :=
  ⟨c.blk H.blk, OwnS.more H.own c⟩
theorem new_fn (h : Heap) : Fx Tryz.prog 66 #[] h fun v' h' => ∃ p, v' = .pointer (some ⟨p, 0, none⟩) ∧ h.size ≤ p ∧ HashAt h' p (.slice none 0 0) Sha.H0 [] 0 ∧ ExtH h h' := by
  refine fn_of 4 Tryz.func66 rfl (by kernel_rfl) rfl (by simp) ?_
  refine cw_seq (cw_region rfl ?_)
  refine cw_seq (cw_region rfl ?_)
  conv => whnf
  refine ⟨_, rfl, _, beginning_fn h, ?_⟩
  rintro _ h1 ⟨rfl, x1⟩
  conv => whnf
  refine ⟨_, rfl, (hashC Sha.H0 (.slice none 0 0) 0).toArray, fun w => by kernel_rfl, ?_⟩
  conv => whnf
  intro h2 n2
  refine cw_ret ?_
  exact ⟨h1.size, rfl, x1.size, ⟨n2.blk, OB.nil _⟩, x1.trans n2.ext⟩
theorem ready_fn {h : Heap} {p : Nat} (hb : rd h ⟨p, 0, none⟩ = some (.bool true)) : Fx Tryz.prog 97 #[.pointer (some ⟨p, 0, none⟩)] h fun v' h' => v' = .tuple #[] ∧ h' = h := by
  refine fn_of 14 Tryz.func97 rfl (by kernel_rfl) rfl (by simp) ?_
  refine cw_seq (cw_region rfl ?_)
  conv => whnf
  refine ⟨_, hb, ?_⟩
  refine cw_false rfl (cw_skip ?_)
  exact ⟨rfl, rfl⟩
end Go.Proofs.YtgecapllodgdeaaGreatDoor
