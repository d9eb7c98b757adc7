/-
  What SHA-256 computes, as plain Lean functions on lists of bytes and words; no program in sight.
-/
namespace Go.Proofs.YtgecapllodgdeaaGreatDoor.Sha
def rotr (x : UInt32) (n : Nat) : UInt32 := UInt32.ofNat ((x.toNat * 2 ^ (32 - n) % 4294967296) ||| (x.toNat / 2 ^ n))
def K : List UInt32 := [
  0x428a2f98, 0x71374491, 0xb5c0fbcf, 0xe9b5dba5, 0x3956c25b, 0x59f111f1, 0x923f82a4, 0xab1c5ed5,
  0xd807aa98, 0x12835b01, 0x243185be, 0x550c7dc3, 0x72be5d74, 0x80deb1fe, 0x9bdc06a7, 0xc19bf174,
  0xe49b69c1, 0xefbe4786, 0x0fc19dc6, 0x240ca1cc, 0x2de92c6f, 0x4a7484aa, 0x5cb0a9dc, 0x76f988da,
  0x983e5152, 0xa831c66d, 0xb00327c8, 0xbf597fc7, 0xc6e00bf3, 0xd5a79147, 0x06ca6351, 0x14292967,
  0x27b70a85, 0x2e1b2138, 0x4d2c6dfc, 0x53380d13, 0x650a7354, 0x766a0abb, 0x81c2c92e, 0x92722c85,
  0xa2bfe8a1, 0xa81a664b, 0xc24b8b70, 0xc76c51a3, 0xd192e819, 0xd6990624, 0xf40e3585, 0x106aa070,
  0x19a4c116, 0x1e376c08, 0x2748774c, 0x34b0bcb5, 0x391c0cb3, 0x4ed8aa4a, 0x5b9cca4f, 0x682e6ff3,
  0x748f82ee, 0x78a5636f, 0x84c87814, 0x8cc70208, 0x90befffa, 0xa4506ceb, 0xbef9a3f7, 0xc67178f2]
structure S8 where
  (a b c d e f g h : UInt32)
deriving DecidableEq
def S8.list (s : S8) : List UInt32 := [s.a, s.b, s.c, s.d, s.e, s.f, s.g, s.h]
def H0 : S8 := ⟨0x6a09e667, 0xbb67ae85, 0x3c6ef372, 0xa54ff53a, 0x510e527f, 0x9b05688c, 0x1f83d9ab, 0x5be0cd19⟩
def s0 (x : UInt32) : UInt32 := rotr x 7 ^^^ rotr x 18 ^^^ (x >>> 3)
def s1 (x : UInt32) : UInt32 := rotr x 17 ^^^ rotr x 19 ^^^ (x >>> 10)
def S1 (x : UInt32) : UInt32 := rotr x 6 ^^^ rotr x 11 ^^^ rotr x 25
def S0 (x : UInt32) : UInt32 := rotr x 2 ^^^ rotr x 13 ^^^ rotr x 22
def ch (e f g : UInt32) : UInt32 := (e &&& f) ^^^ ((~~~e) &&& g)
def maj (a b c : UInt32) : UInt32 := (a &&& b) ^^^ (a &&& c) ^^^ (b &&& c)
def t1 (s : S8) (k w : UInt32) : UInt32 := s.h + S1 s.e + ch s.e s.f s.g + k + w
def t2 (s : S8) : UInt32 := S0 s.a + maj s.a s.b s.c
def round (s : S8) (k w : UInt32) : S8 := ⟨t1 s k w + t2 s, s.a, s.b, s.c, s.d + t1 s k w, s.e, s.f, s.g⟩
def be (a b c d : UInt8) : UInt32 := UInt32.ofNat (a.toNat * 16777216 + b.toNat * 65536 + c.toNat * 256 + d.toNat)
def word (b : List UInt8) (t : Nat) : UInt32 := be (b.getD (4 * t) 0) (b.getD (4 * t + 1) 0) (b.getD (4 * t + 2) 0) (b.getD (4 * t + 3) 0)
def words (b : List UInt8) : Nat → List UInt32
  | 0 => []
  | n + 1 => words b n ++ [word b n]
/-- the word behind the first t -/
def next (w : List UInt32) (t : Nat) : UInt32 := w.getD (t - 16) 0 + s0 (w.getD (t - 15) 0) + w.getD (t - 7) 0 + s1 (w.getD (t - 2) 0)
def ext (w : List UInt32) : Nat → List UInt32
  | 0 => w
  | n + 1 => ext w n ++ [next (ext w n) (16 + n)]
def sched (b : List UInt8) : List UInt32 := ext (words b 16) 48
def rounds (w : List UInt32) (s : S8) : Nat → S8
  | 0 => s
  | n + 1 => round (rounds w s n) (K.getD n 0) (w.getD n 0)
def add8 (s t : S8) : S8 := ⟨s.a + t.a, s.b + t.b, s.c + t.c, s.d + t.d, s.e + t.e, s.f + t.f, s.g + t.g, s.h + t.h⟩
def compress (s : S8) (b : List UInt8) : S8 := add8 (rounds (sched b) s 64) s
/-- all whole blocks of l, one behind the other; n: at most so many -/
def blocks (s : S8) : Nat → List UInt8 → S8
  | 0, _ => s
  | n + 1, l => if 64 ≤ l.length then blocks (compress s (l.take 64)) n (l.drop 64) else s
/-- a hash as it stands: its words, and the bytes that fill no block yet -/
def feed (s : S8) (l : List UInt8) : S8 := blocks s (l.length / 64) l
def rest (l : List UInt8) : List UInt8 := l.drop (l.length / 64 * 64)
def eight (n : Nat) : List UInt8 :=
  [UInt8.ofNat (n / 72057594037927936), UInt8.ofNat (n / 281474976710656), UInt8.ofNat (n / 1099511627776), UInt8.ofNat (n / 4294967296),
   UInt8.ofNat (n / 16777216), UInt8.ofNat (n / 65536), UInt8.ofNat (n / 256), UInt8.ofNat n]
def zeros (n : Nat) : Nat := (119 - n % 64) % 64
def pad (n : Nat) : List UInt8 := 128 :: List.replicate (zeros n) 0 ++ eight (8 * n)
def wb (x : UInt32) : List UInt8 := [UInt8.ofNat (x.toNat / 16777216), UInt8.ofNat (x.toNat / 65536), UInt8.ofNat (x.toNat / 256), UInt8.ofNat x.toNat]
def bytes (s : S8) : List UInt8 := wb s.a ++ wb s.b ++ wb s.c ++ wb s.d ++ wb s.e ++ wb s.f ++ wb s.g ++ wb s.h
/-- the digest of a hash whose words are s, whose rest is l and that took n bytes -/
def sum (s : S8) (l : List UInt8) (n : Nat) : List UInt8 := bytes (feed s (l ++ pad n))
/-- the digest of a message -/
def digest (m : List UInt8) : List UInt8 := sum (feed H0 m) (rest m) m.length
def abc : List UInt8 := [0xba, 0x78, 0x16, 0xbf, 0x8f, 0x01, 0xcf, 0xea, 0x41, 0x41, 0x40, 0xde, 0x5d, 0xae, 0x22, 0x23, 0xb0, 0x03, 0x61, 0xa3, 0x96, 0x17, 0x7a, 0x9c, 0xb4, 0x10, 0xff, 0x61, 0xf2, 0x00, 0x15, 0xad]
set_option maxRecDepth 100000 in
theorem abc_digest : digest [97, 98, 99] = abc := by decide +kernel

/-! ### plain facts -/
theorem words_length (b : List UInt8) : ∀ n, (words b n).length = n
  | 0 => rfl
  | n + 1 => by simp [words, words_length b n]
theorem ext_length (w : List UInt32) : ∀ n, (ext w n).length = w.length + n
  | 0 => rfl
  | n + 1 => by simp [ext, ext_length w n]; omega
theorem sched_length (b : List UInt8) : (sched b).length = 64 := by simp [sched, ext_length, words_length]
theorem eight_length (n : Nat) : (eight n).length = 8 := rfl
theorem pad_length (n : Nat) : (pad n).length = 9 + zeros n := by simp [pad, eight_length]; omega
theorem bytes_length (s : S8) : (bytes s).length = 32 := rfl
theorem digest_length (m : List UInt8) : (digest m).length = 32 := rfl
theorem sum_length (s : S8) (l : List UInt8) (n : Nat) : (sum s l n).length = 32 := rfl
theorem rest_length (l : List UInt8) : (rest l).length = l.length % 64 := by
  simp [rest]; omega
theorem rest_lt (l : List UInt8) : (rest l).length < 64 := by rw [rest_length]; omega

theorem blocks_zero (s : S8) (n : Nat) {l : List UInt8} (h : l.length < 64) : blocks s n l = s := by
  cases n with
  | zero => rfl
  | succ n => unfold blocks; rw [if_neg (by omega)]
/-- more rounds change nothing -/
theorem blocks_more (n m : Nat) : ∀ (s : S8) (l : List UInt8), l.length / 64 ≤ n → n ≤ m → blocks s m l = blocks s n l := by
  induction n generalizing m with
  | zero => intro s l h _; rw [blocks_zero s m (by omega)]; rfl
  | succ n ih =>
    intro s l h hm
    obtain ⟨m, rfl⟩ : ∃ k, m = k + 1 := ⟨m - 1, by omega⟩
    unfold blocks
    by_cases h6 : 64 ≤ l.length
    · rw [if_pos h6, if_pos h6]
      exact ih m _ _ (by simp; omega) (by omega)
    · rw [if_neg h6, if_neg h6]
theorem feed_lt (s : S8) {l : List UInt8} (h : l.length < 64) : feed s l = s := blocks_zero s _ h
theorem feed_block (s : S8) (l : List UInt8) (h : 64 ≤ l.length) : feed s l = feed (compress s (l.take 64)) (l.drop 64) := by
  unfold feed
  have e : l.length / 64 = (l.drop 64).length / 64 + 1 := by simp; omega
  rw [e]
  conv => lhs; unfold blocks
  rw [if_pos h]
/-- the first k blocks of l, in order -/
def feedN (s : S8) (l : List UInt8) : Nat → S8
  | 0 => s
  | k + 1 => compress (feedN s l k) ((l.drop (64 * k)).take 64)
theorem feedN_first (s : S8) (l : List UInt8) : ∀ k, feedN s l (k + 1) = feedN (compress s (l.take 64)) (l.drop 64) k
  | 0 => by simp [feedN]
  | k + 1 => by
    show compress (feedN s l (k + 1)) _ = compress (feedN _ _ k) _
    rw [feedN_first s l k, List.drop_drop]
    congr 3
    omega
theorem feed_eq (n : Nat) : ∀ (s : S8) (l : List UInt8), l.length / 64 = n → feed s l = feedN s l n := by
  induction n with
  | zero => intro s l h; rw [feed_lt s (by omega)]; rfl
  | succ n ih =>
    intro s l h
    rw [feed_block s l (by omega), feedN_first]
    exact ih _ _ (by simp; omega)
theorem feed_feedN (s : S8) (l : List UInt8) : feed s l = feedN s l (l.length / 64) := feed_eq _ s l rfl
/-- what is behind the blocks that were taken -/
theorem feed_append (n : Nat) : ∀ (s : S8) (l m : List UInt8), l.length / 64 = n → feed s (l ++ m) = feed (feed s l) (rest l ++ m) := by
  induction n with
  | zero =>
    intro s l m h
    rw [feed_lt s (show l.length < 64 by omega)]
    have : rest l = l := by simp [rest, h]
    rw [this]
  | succ n ih =>
    intro s l m h
    rw [feed_block s (l ++ m) (by simp; omega), feed_block s l (by omega)]
    rw [List.take_append_of_le_length (by omega), List.drop_append_of_le_length (by omega), ih _ _ _ (by simp; omega)]
    congr 2
    simp only [rest, List.drop_drop, List.length_drop]
    congr 1
    omega
theorem feed_app (s : S8) (l m : List UInt8) : feed s (l ++ m) = feed (feed s l) (rest l ++ m) := feed_append _ s l m rfl
theorem rest_app (l m : List UInt8) : rest (rest l ++ m) = rest (l ++ m) := by
  have e : l.length / 64 * 64 ≤ l.length := by omega
  simp only [rest, List.length_append, List.length_drop]
  rw [List.drop_append, List.drop_append, List.drop_drop, List.length_drop]
  congr 2 <;> omega
theorem rest_short {l : List UInt8} (h : l.length < 64) : rest l = l := by
  have : l.length / 64 = 0 := by omega
  simp [rest, this]
end Go.Proofs.YtgecapllodgdeaaGreatDoor.Sha
