/-
  The model's integers of 8, 32 and 64 bits as UInt8, UInt32 and UInt64: what each operation comes to.
-/
import Derived.Test.YtgecapllodgdeaaGreatDoorShaSpec
import Derived.WalkLawsBesides
namespace Go.Proofs.YtgecapllodgdeaaGreatDoor
open Go
def u8v (b : UInt8) : Value := .int .u8 (b.toNat : Int)
def u32v (x : UInt32) : Value := .int .u32 (x.toNat : Int)
def u64v (x : UInt64) : Value := .int .u64 (x.toNat : Int)
theorem u32_lt (x : UInt32) : x.toNat < 4294967296 := x.toNat_lt
theorem u8_lt (x : UInt8) : x.toNat < 256 := x.toNat_lt
theorem u64_lt (x : UInt64) : x.toNat < 18446744073709551616 := x.toNat_lt
theorem wrap_add32 (x y : UInt32) : IntKind.u32.wrap ((x.toNat : Int) + y.toNat) = ((x + y).toNat : Int) := by
  rw [IntKind.wrap_u32, UInt32.toNat_add]; omega
theorem xor32 (x y : UInt32) : bits .xor .u32 (x.toNat : Int) (y.toNat : Int) = ((x ^^^ y).toNat : Int) := by
  rw [u32_xor_nat _ _ (u32_lt x) (u32_lt y), UInt32.toNat_xor]
theorem and32 (x y : UInt32) : bits .and .u32 (x.toNat : Int) (y.toNat : Int) = ((x &&& y).toNat : Int) := by
  rw [u32_and_nat _ _ (u32_lt x) (u32_lt y), UInt32.toNat_and]
theorem or32 (x y : UInt32) : bits .or .u32 (x.toNat : Int) (y.toNat : Int) = ((x ||| y).toNat : Int) := by
  rw [u32_or_nat _ _ (u32_lt x) (u32_lt y), UInt32.toNat_or]
theorem not32 (x : UInt32) : bits .xor .u32 4294967295 (x.toNat : Int) = ((~~~x).toNat : Int) := by
  have h := u32_xor_nat 4294967295 x.toNat (by decide) (u32_lt x)
  rw [show ((4294967295 : Nat) : Int) = 4294967295 from rfl] at h
  rw [h]
  have e : (~~~x).toNat = (x.toBitVec ^^^ BitVec.allOnes 32).toNat := by
    rw [BitVec.xor_allOnes]; rfl
  rw [e, BitVec.toNat_xor, Nat.xor_comm]
  rfl
theorem shr32 (x : UInt32) (n : Nat) (hn : n < 32) : (x.toNat : Int) / 2 ^ n = ((x >>> UInt32.ofNat n).toNat : Int) := by
  rw [UInt32.toNat_shiftRight]
  have e : (UInt32.ofNat n).toNat % 32 = n := by simp; omega
  rw [e, Nat.shiftRight_eq_div_pow]
  simp
theorem ofNat32 (n : Nat) (h : n < 4294967296) : (UInt32.ofNat n).toNat = n := by simp; omega
theorem rot_eq (x : UInt32) (s : Nat) (h1 : 1 ≤ s) (h2 : s ≤ 31) :
    bits .or .u32 (IntKind.u32.wrap ((x.toNat : Int) * 2 ^ s)) ((x.toNat : Int) / 2 ^ (32 - s)) = ((Sha.rotr x (32 - s)).toNat : Int) := by
  have e1 : IntKind.u32.wrap ((x.toNat : Int) * 2 ^ s) = ((x.toNat * 2 ^ s % 4294967296 : Nat) : Int) := by
    rw [IntKind.wrap_u32]; simp
  have e2 : (x.toNat : Int) / 2 ^ (32 - s) = ((x.toNat / 2 ^ (32 - s) : Nat) : Int) := by simp
  have hx := u32_lt x
  have b1 : x.toNat * 2 ^ s % 4294967296 < 4294967296 := Nat.mod_lt _ (by decide)
  have b2 : x.toNat / 2 ^ (32 - s) < 4294967296 := Nat.lt_of_le_of_lt (Nat.div_le_self _ _) hx
  rw [e1, e2, u32_or_nat _ _ b1 b2]
  unfold Sha.rotr
  rw [show 32 - (32 - s) = s by omega]
  congr 1
  rw [ofNat32]
  exact Nat.or_lt_two_pow (n := 32) b1 b2
/-! ### bytes -/
theorem and8 (x y : UInt8) : bits .and .u8 (x.toNat : Int) (y.toNat : Int) = ((x &&& y).toNat : Int) := by
  rw [u8_and_nat _ _ (u8_lt x) (u8_lt y), UInt8.toNat_and]
theorem wrap8_nat (n : Nat) : IntKind.u8.wrap (n : Int) = ((UInt8.ofNat n).toNat : Int) := by
  rw [IntKind.wrap_u8]; simp
theorem wrap32_8 (b : UInt8) : IntKind.u32.wrap (b.toNat : Int) = (b.toNat : Int) := by
  have := u8_lt b; rw [IntKind.wrap_u32]; omega
/-- four bytes make a word, the greatest first -/
theorem be_eq (a b c d : UInt8) : bits .or .u32 (bits .or .u32 (bits .or .u32 (IntKind.u32.wrap (IntKind.u32.wrap (a.toNat : Int) * 2 ^ 24)) (IntKind.u32.wrap (IntKind.u32.wrap (b.toNat : Int) * 2 ^ 16)))
    (IntKind.u32.wrap (IntKind.u32.wrap (c.toNat : Int) * 2 ^ 8))) (IntKind.u32.wrap (d.toNat : Int)) = ((Sha.be a b c d).toNat : Int) := by
  have ha := u8_lt a; have hb := u8_lt b; have hc := u8_lt c; have hd := u8_lt d
  have w1 : IntKind.u32.wrap (IntKind.u32.wrap (a.toNat : Int) * 2 ^ 24) = ((a.toNat * 16777216 : Nat) : Int) := by rw [wrap32_8, IntKind.wrap_u32]; omega
  have w2 : IntKind.u32.wrap (IntKind.u32.wrap (b.toNat : Int) * 2 ^ 16) = ((b.toNat * 65536 : Nat) : Int) := by rw [wrap32_8, IntKind.wrap_u32]; omega
  have w3 : IntKind.u32.wrap (IntKind.u32.wrap (c.toNat : Int) * 2 ^ 8) = ((c.toNat * 256 : Nat) : Int) := by rw [wrap32_8, IntKind.wrap_u32]; omega
  have j1 : a.toNat * 16777216 ||| b.toNat * 65536 = a.toNat * 16777216 + b.toNat * 65536 := nat_join 24 _ _ (by omega) (by omega)
  have j2 : a.toNat * 16777216 + b.toNat * 65536 ||| c.toNat * 256 = a.toNat * 16777216 + b.toNat * 65536 + c.toNat * 256 := nat_join 16 _ _ (by omega) (by omega)
  have j3 : a.toNat * 16777216 + b.toNat * 65536 + c.toNat * 256 ||| d.toNat = a.toNat * 16777216 + b.toNat * 65536 + c.toNat * 256 + d.toNat := nat_join 8 _ _ (by omega) (by omega)
  rw [w1, w2, w3, wrap32_8, u32_or_nat _ _ (by omega) (by omega), j1, u32_or_nat _ _ (by omega) (by omega), j2, u32_or_nat _ _ (by omega) (by omega), j3]
  unfold Sha.be
  rw [ofNat32 _ (by omega)]
theorem s0_eq (x : UInt32) : bits .xor .u32 (bits .xor .u32 ((Sha.rotr x 7).toNat : Int) ((Sha.rotr x 18).toNat : Int)) ((x.toNat : Int) / 2 ^ 3) = ((Sha.s0 x).toNat : Int) := by
  rw [shr32 x 3 (by decide), xor32, xor32]; rfl
theorem s1_eq (x : UInt32) : bits .xor .u32 (bits .xor .u32 ((Sha.rotr x 17).toNat : Int) ((Sha.rotr x 19).toNat : Int)) ((x.toNat : Int) / 2 ^ 10) = ((Sha.s1 x).toNat : Int) := by
  rw [shr32 x 10 (by decide), xor32, xor32]; rfl
theorem S1_eq (x : UInt32) : bits .xor .u32 (bits .xor .u32 ((Sha.rotr x 6).toNat : Int) ((Sha.rotr x 11).toNat : Int)) ((Sha.rotr x 25).toNat : Int) = ((Sha.S1 x).toNat : Int) := by
  rw [xor32, xor32]; rfl
theorem S0_eq (x : UInt32) : bits .xor .u32 (bits .xor .u32 ((Sha.rotr x 2).toNat : Int) ((Sha.rotr x 13).toNat : Int)) ((Sha.rotr x 22).toNat : Int) = ((Sha.S0 x).toNat : Int) := by
  rw [xor32, xor32]; rfl
theorem ch_eq (e f g : UInt32) : bits .xor .u32 (bits .and .u32 (e.toNat : Int) (f.toNat : Int)) (bits .and .u32 (bits .xor .u32 4294967295 (e.toNat : Int)) (g.toNat : Int)) = ((Sha.ch e f g).toNat : Int) := by
  rw [not32, and32, and32, xor32]; rfl
theorem maj_eq (a b c : UInt32) : bits .xor .u32 (bits .xor .u32 (bits .and .u32 (a.toNat : Int) (b.toNat : Int)) (bits .and .u32 (a.toNat : Int) (c.toNat : Int))) (bits .and .u32 (b.toNat : Int) (c.toNat : Int)) = ((Sha.maj a b c).toNat : Int) := by
  rw [and32, and32, and32, xor32, xor32]; rfl
theorem t1_eq (s : Sha.S8) (k w : UInt32) : IntKind.u32.wrap (IntKind.u32.wrap (IntKind.u32.wrap (IntKind.u32.wrap ((s.h.toNat : Int) + ((Sha.S1 s.e).toNat : Int)) +
    bits .xor .u32 (bits .and .u32 (s.e.toNat : Int) (s.f.toNat : Int)) (bits .and .u32 (bits .xor .u32 4294967295 (s.e.toNat : Int)) (s.g.toNat : Int))) + (k.toNat : Int)) + (w.toNat : Int)) = ((Sha.t1 s k w).toNat : Int) := by
  rw [ch_eq, wrap_add32, wrap_add32, wrap_add32, wrap_add32]; rfl
theorem t2_eq (s : Sha.S8) : IntKind.u32.wrap (((Sha.S0 s.a).toNat : Int) + bits .xor .u32 (bits .xor .u32 (bits .and .u32 (s.a.toNat : Int) (s.b.toNat : Int)) (bits .and .u32 (s.a.toNat : Int) (s.c.toNat : Int))) (bits .and .u32 (s.b.toNat : Int) (s.c.toNat : Int))) = ((Sha.t2 s).toNat : Int) := by
  rw [maj_eq, wrap_add32]; rfl
theorem next_eq (a b c d : UInt32) : IntKind.u32.wrap (IntKind.u32.wrap (IntKind.u32.wrap ((a.toNat : Int) + (b.toNat : Int)) + (c.toNat : Int)) + (d.toNat : Int)) = ((a + b + c + d).toNat : Int) := by
  rw [wrap_add32, wrap_add32, wrap_add32]
end Go.Proofs.YtgecapllodgdeaaGreatDoor
