/-
  The contracts of package sha's Load and of the laws' words.
-/
import Derived.Test.YtnjimdjojinffaaShaTook
namespace Go.Proofs.Ytnjimdjojinffaa.Sha
def part (x : UInt32) (k : Nat) : Nat := x.toNat / 2 ^ (32 - 8 * k)
def parts (s : S8) (t : Nat) : List Nat := [part s.a (min 4 t), part s.b (min 4 (t - 4)), part s.c (min 4 (t - 8)), part s.d (min 4 (t - 12)), part s.e (min 4 (t - 16)), part s.f (min 4 (t - 20)), part s.g (min 4 (t - 24)), part s.h (min 4 (t - 28))]
theorem digest_words (m : List UInt8) : digest m = bytes (feed H0 (m ++ pad m.length)) := by
  rw [feed_app]
  rfl
end Go.Proofs.Ytnjimdjojinffaa.Sha
namespace Go.Proofs.Ytnjimdjojinffaa
open Go Vm
set_option maxRecDepth 100000
def pcells (s : Sha.S8) (t : Nat) : List Value := (Sha.parts s t).map fun (n : Nat) => Value.int .u32 (n : Int)
theorem cases32 {P : Nat → Prop} (h : ∀ j k, j < 8 → k < 4 → P (4 * j + k)) (t : Nat) (ht : t < 32) : P t := by
  have := h (t / 4) (t % 4) (by omega) (by omega)
  rwa [show 4 * (t / 4) + t % 4 = t by omega] at this
theorem pcells_step (s : Sha.S8) (j k : Nat) (hj : j < 8) (hk : k < 4) : (pcells s (4 * j + k)).set j (.int .u32 ((Sha.part (s.list.getD j 0) (k + 1) : Nat) : Int)) = pcells s (4 * j + k + 1) ∧
    (pcells s (4 * j + k))[j]? = some (.int .u32 ((Sha.part (s.list.getD j 0) k : Nat) : Int)) ∧ (Sha.bytes s).getD (4 * j + k) 0 = UInt8.ofNat ((s.list.getD j 0).toNat / 2 ^ (24 - 8 * k)) := by
  have h1 : j = 0 ∨ j = 1 ∨ j = 2 ∨ j = 3 ∨ j = 4 ∨ j = 5 ∨ j = 6 ∨ j = 7 := by omega
  have h2 : k = 0 ∨ k = 1 ∨ k = 2 ∨ k = 3 := by omega
  rcases h1 with rfl | rfl | rfl | rfl | rfl | rfl | rfl | rfl <;> rcases h2 with rfl | rfl | rfl | rfl <;>
    exact ⟨rfl, rfl, by simp [Sha.bytes, Sha.wb, Sha.S8.list]⟩
theorem part_or (x : UInt32) (k : Nat) (hk : k < 4) : bits .or .u32 (IntKind.u32.wrap (((Sha.part x k : Nat) : Int) * 2 ^ min (8 : Int).toNat 32)) (IntKind.u32.wrap (((UInt8.ofNat (x.toNat / 2 ^ (24 - 8 * k))).toNat : Nat) : Int)) = ((Sha.part x (k + 1) : Nat) : Int) := by
  have hx := u32_lt x
  have hb : (UInt8.ofNat (x.toNat / 2 ^ (24 - 8 * k))).toNat = x.toNat / 2 ^ (24 - 8 * k) % 256 := by simp
  rw [hb]
  have h2 : k = 0 ∨ k = 1 ∨ k = 2 ∨ k = 3 := by omega
  rcases h2 with rfl | rfl | rfl | rfl
  all_goals
    simp only [Sha.part, Nat.mul_zero, Nat.sub_zero, Nat.reduceMul, Nat.reduceSub, Nat.reduceAdd, Nat.reducePow, Nat.pow_zero, Nat.div_one]
    rw [show min (8 : Int).toNat 32 = 8 from rfl]
  · have e1 : IntKind.u32.wrap (((x.toNat / 4294967296 : Nat) : Int) * 2 ^ 8) = ((x.toNat / 4294967296 * 256 : Nat) : Int) := by rw [IntKind.wrap_u32]; omega
    have e2 : IntKind.u32.wrap (((x.toNat / 16777216 % 256 : Nat)) : Int) = ((x.toNat / 16777216 % 256 : Nat) : Int) := by rw [IntKind.wrap_u32]; omega
    rw [e1, e2, u32_or_nat _ _ (by omega) (by omega), nat_join 8 _ _ (by omega) (by omega)]
    omega
  · have e1 : IntKind.u32.wrap (((x.toNat / 16777216 : Nat) : Int) * 2 ^ 8) = ((x.toNat / 16777216 * 256 : Nat) : Int) := by rw [IntKind.wrap_u32]; omega
    have e2 : IntKind.u32.wrap (((x.toNat / 65536 % 256 : Nat)) : Int) = ((x.toNat / 65536 % 256 : Nat) : Int) := by rw [IntKind.wrap_u32]; omega
    rw [e1, e2, u32_or_nat _ _ (by omega) (by omega), nat_join 8 _ _ (by omega) (by omega)]
    omega
  · have e1 : IntKind.u32.wrap (((x.toNat / 65536 : Nat) : Int) * 2 ^ 8) = ((x.toNat / 65536 * 256 : Nat) : Int) := by rw [IntKind.wrap_u32]; omega
    have e2 : IntKind.u32.wrap (((x.toNat / 256 % 256 : Nat)) : Int) = ((x.toNat / 256 % 256 : Nat) : Int) := by rw [IntKind.wrap_u32]; omega
    rw [e1, e2, u32_or_nat _ _ (by omega) (by omega), nat_join 8 _ _ (by omega) (by omega)]
    omega
  · have e1 : IntKind.u32.wrap (((x.toNat / 256 : Nat) : Int) * 2 ^ 8) = ((x.toNat / 256 * 256 : Nat) : Int) := by rw [IntKind.wrap_u32]; omega
    have e2 : IntKind.u32.wrap (((x.toNat % 256 : Nat)) : Int) = ((x.toNat % 256 : Nat) : Int) := by rw [IntKind.wrap_u32]; omega
    rw [e1, e2, u32_or_nat _ _ (by omega) (by omega), nat_join 8 _ _ (by omega) (by omega)]
    omega
theorem words_fn (s : Sha.S8) (h : Heap) : Fx Try.prog 25 #[.agg ((Sha.bytes s).map u8v).toArray] h fun u h' => u = .agg (s.list.map u32v).toArray ∧ ExtH h h' := by
  refine fn_of 23 Try.func25 rfl (by kernel_rfl) rfl (by simp) ?_
  refine cw_seq (cw_region rfl ?_)
  conv => whnf
  intro h1 n1
  conv => whnf
  intro h2 n2
  refine cw_seq (cw_region rfl ?_)
  conv => whnf
  intro h3 n3
  have z1 := n1.size; have z2 := n2.size; have z3 := n3.size
  have y1 : Blk h3 h.size ((Sha.bytes s).map u8v) 37 := n3.ext.blk (n2.ext.blk n1.blk)
  have y2' : Blk h2 h1.size (List.replicate 8 (u32v 0)) 45 := n2.blk
  have y2 := n3.ext.blk y2'
  have y3' : Blk h3 h2.size (List.replicate 8 (u32v 0)) 45 := n3.blk
  have e0 : pcells s 0 = List.replicate 8 (u32v 0) := by
    have hp : ∀ x : UInt32, Sha.part x 0 = 0 := fun x => by have := u32_lt x; unfold Sha.part; omega
    simp [pcells, Sha.parts, hp, List.replicate]
    rfl
  rw [← e0] at y3'
  have x3 := (n1.ext.trans n2.ext).trans n3.ext
  generalize h1.size = b1 at *
  generalize h2.size = b2 at *
  clear y2' n1 n2 n3 h1 h2
  refine cw_seq (cw_seq (cw_region rfl ?_))
  conv => whnf
  refine cw_block ?_
  refine cw_loop (S := Nat) (fun t => [(1, .pointer (some ⟨h.size, 0, none⟩)), (2, .pointer (some ⟨b1, 0, none⟩)), (3, .pointer (some ⟨b2, 0, none⟩)), (4, .int .i64 (t : Int))])
    (fun t h' => t ≤ 32 ∧ Blk h' h.size ((Sha.bytes s).map u8v) 37 ∧ Blk h' b1 (List.replicate 8 (u32v 0)) 45 ∧ Blk h' b2 (pcells s t) 45 ∧ ExtH h h') (fun t => 32 - t) 0 ⟨rfl, rfl, rfl, rfl, trivial⟩
    ⟨by omega, y1, y2, y3', x3⟩ ?_
  clear y1 y2 y3' x3 z3 h3
  rintro t h4 ⟨ht, y1, y2, y3, x4⟩
  refine cw_seq (cw_seq (cw_region rfl ?_))
  conv => whnf
  by_cases hlt : t < 32
  · refine cw_yes rfl (by omega) (cw_skip ?_)
    obtain ⟨j, k, hj, hk, rfl⟩ : ∃ j k, j < 8 ∧ k < 4 ∧ t = 4 * j + k := ⟨t / 4, t % 4, by omega, by omega, by omega⟩
    obtain ⟨s1, s2, s3⟩ := pcells_step s j k hj hk
    have q1 : IntKind.i64.wrap (((4 * j + k : Nat) : Int).tdiv 4) = (j : Int) := by
      rw [Int.tdiv_eq_ediv_of_nonneg (by omega)]
      exact i64_eq _ j (by omega) (by omega)
    have hpo := part_or (s.list.getD j 0) k hk
    refine cw_seq (cw_block ?_)
    refine cw_drawn (by kernel_rfl) 13 (fun _ => false) (List.range 13) (by kernel_rfl) rfl ?_
    conv => whnf
    refine ⟨by decide, ?_⟩
    conv => whnf
    refine ⟨by decide, ?_⟩
    conv => whnf
    refine ⟨⟨by omega, by omega⟩, ?_⟩
    conv => whnf
    refine ⟨_, y3.rd (o := 0 + (IntKind.i64.wrap (((4 * j + k : Nat) : Int).tdiv 4)).toNat) (by rw [q1, show 0 + ((j : Int)).toNat = j by omega]; exact s2), ?_⟩
    conv => whnf
    refine ⟨by decide, ?_⟩
    conv => whnf
    refine ⟨⟨by omega, by show ((4 * j + k : Nat) : Int) < ((32 : Nat) : Int); omega⟩, ?_⟩
    conv => whnf
    refine ⟨_, y1.rd (o := 0 + ((4 * j + k : Nat) : Int).toNat) (by
      rw [show 0 + ((4 * j + k : Nat) : Int).toNat = 4 * j + k by omega, map_get u8v _ _ 0 (by rw [Sha.bytes_length]; omega), s3]), ?_⟩
    conv => whnf
    refine ⟨⟨by omega, by omega⟩, ?_⟩
    conv => whnf
    intro h5 x5
    conv => whnf
    refine ⟨_, _, x5.blk y3, by rw [q1]; show 0 + ((j : Int)).toNat < 8; omega, ?_⟩
    intro h6 w6
    replace w6 := w6.cast (l' := pcells s (4 * j + k + 1)) (by
      rw [← s1]
      refine congr (congrArg (List.set _) (by rw [q1]; omega)) (congrArg (Value.int .u32) hpo))
    have z4 := x4.size; have z5 := x5.size; have z6 := w6.size
    refine cw_region rfl ?_
    refine ⟨4 * j + k + 1, ⟨rfl, rfl, rfl, slot_i64 _ _ (by omega) (by omega), trivial⟩, ⟨by omega, w6.blk (x5.blk y1) (by omega), w6.blk (x5.blk y2) (by omega), w6.new, ?_⟩, by omega⟩
    exact ⟨by omega, fun b hb => by rw [w6.block b (by omega), x5.block b (by omega), x4.block b hb]⟩
  · refine cw_no rfl (by omega) (cw_exit ?_)
    have t32 : t = 32 := by omega
    subst t32
    have e32 : pcells s 32 = s.list.map u32v := by
      have hp : ∀ x : UInt32, Sha.part x 4 = x.toNat := fun x => by unfold Sha.part; simp
      simp [pcells, Sha.parts, hp, Sha.S8.list, u32v]
    rw [e32] at y3
    refine cw_seq (cw_region rfl ?_)
    conv => whnf
    refine ⟨_, by rfl, y3.all, ?_⟩
    conv => whnf
    refine ⟨_, _, y2, ⟨(show (8 : Nat) ≤ 8 by decide), by rfl, by simp [u32v, Value.oneCell', Sha.S8.list]⟩, ?_⟩
    intro h5 w5
    replace w5 := w5.cast (l' := s.list.map u32v) (by simp [splice, Sha.S8.list])
    have z4 := x4.size; have z5 := w5.size
    refine cw_ret ?_
    conv => whnf
    refine ⟨_, by rfl, w5.new.all, rfl, ?_⟩
    exact ⟨by omega, fun b hb => by rw [w5.block b (by omega), x4.block b hb]⟩
/-- a state, as it is handed over -/
def stateC (s : Sha.S8) (b : Value) (n : Nat) : List Value := [u32v s.a, u32v s.b, u32v s.c, u32v s.d, u32v s.e, u32v s.f, u32v s.g, u32v s.h, b, .int .u64 (n : Int)]
theorem load_fn {h : Heap} {s : Sha.S8} {b : Value} {l : List UInt8} {n : Nat} (hb : RB h b l) (hn : n ≤ 2305843009213693951) (hl : l.length = n % 64) :
    Fx Try.prog 24 #[.agg (stateC s b n).toArray] h fun u h' => ∃ q v', u = .tuple #[.pointer (some ⟨q, 0, none⟩), .int .i64 0] ∧ h.size ≤ q ∧ HashAt h' q v' s l n ∧ ExtH h h' ∧ ∀ c, ob v' c → h.size ≤ c := by
  refine fn_of 26 Try.func24 rfl (by kernel_rfl) rfl (by simp) ?_
  obtain ⟨a, c, e⟩ := hb.len
  refine cw_seq (cw_region rfl ?_)
  subst e
  conv => whnf
  intro h1 n1
  have y1 : Blk h1 h.size (stateC s (.slice a l.length c) n) 48 := n1.blk
  have z1 := n1.size
  refine cw_seq (cw_seq (cw_region rfl ?_))
  conv => whnf
  refine ⟨_, y1.rd (o := 9) rfl, ?_⟩
  refine ops_q (v := .bool false) rfl rfl (fun k hk => say false (decide_eq_false (by omega)) hk) ?_
  conv => whnf
  refine ⟨_, y1.rd (o := 8) rfl, ?_⟩
  conv => whnf
  refine ⟨_, y1.rd (o := 9) rfl, ?_⟩
  conv => whnf
  refine ⟨by decide, ?_⟩
  have w1 := u64_in (l.length : Int) (n % 64) (by omega) (by omega)
  refine cw_bne_no rfl (by rw [w1, Int.tmod_eq_emod_of_nonneg (by omega)]; omega) (cw_skip ?_)
  refine cw_seq ?_
  refine cw_drawn (by kernel_rfl) 10 (fun i => i == 4 || i == 8) [0, 1, 2, 3, 5, 6, 4, 7, 8, 9] (by kernel_rfl) rfl ?_
  conv => whnf
  refine ⟨s.list.map u32v, by rfl, y1.rdN 0 _ rfl, ?_⟩
  conv => whnf
  refine ⟨_, y1.rd (o := 8) rfl, ?_⟩
  conv => whnf
  refine ⟨_, y1.rd (o := 9) rfl, ?_⟩
  conv => whnf
  intro h2 x2
  refine ⟨_, rfl, _, clone_fn ((hb.more n1.ext).more x2) (by omega), ?_⟩
  rintro v' h3 ⟨o3, x3, f3⟩
  obtain ⟨a3, k3, e3⟩ := o3.r.len
  subst e3
  refine ⟨x3.toU _, ?_⟩
  intro h4 x4
  conv => whnf
  refine ⟨_, rfl, (hashC s (.slice a3 l.length k3) n).toArray, fun w => by kernel_rfl, ?_⟩
  conv => whnf
  intro h5 x5 h6 n6
  refine ⟨n6.ext.toU _, ?_⟩
  intro h7 x7
  conv => whnf
  intro h8 x8
  refine cw_ret ?_
  have z2 := x2.size; have z3 := x3.size; have z4 := x4.size; have z5 := x5.size
  have x58 := (n6.ext.trans x7).trans x8
  exact ⟨h5.size, _, rfl, by omega, ⟨x8.blk (x7.blk n6.blk), OwnS.more o3 ((x4.trans x5).trans x58)⟩, ((n1.ext.trans x2).trans (x3.trans x4)).trans (x5.trans x58), fun b hb => by have := f3 b hb; omega⟩
end Go.Proofs.Ytnjimdjojinffaa
