/-
  SHA-256 on plain numbers: quick for the kernel.
  Digests, as the evaluator does them.
  Tags: package sha's tagged and the document's Tag.
  Preimages: what is hashed for a purpose; package sha's Preimage; plain: unlike tags or parts have unlike preimages.
  Runs that were done ahead.
-/
import Derived.Test.YtdielfpgekenkaaGreatDoorJ3
import Derived.Test.YtdielfpgekenkaaGreatDoorJ7
import Derived.Test.YtdielfpgekenkaaGreatDoorJ15
import Derived.Test.YtdielfpgekenkaaGreatDoorJ5
import Derived.Test.YtdielfpgekenkaaGreatDoorJ6
import Derived.Deep.AppendSrc
set_option linter.unusedVariables false
namespace Go.Proofs.YtdielfpgekenkaaGreatDoor.ShaN
open Sha
def M : Nat := 4294967296
def fN {α : Type} (n : Nat) (k : Nat → α) : α := match n with
  | 0 => k 0
  | m + 1 => k (Nat.succ m)
theorem fN_eq {α : Type} (n : Nat) (k : Nat → α) : fN n k = k n := by cases n <;> rfl
def rot (x n : Nat) : Nat := Nat.lor (Nat.mod (Nat.mul x (Nat.pow 2 (Nat.sub 32 n))) 4294967296) (Nat.div x (Nat.pow 2 n))
def xor3 (a b c : Nat) : Nat := Nat.xor (Nat.xor a b) c
def sa (x : Nat) : Nat := xor3 (rot x 7) (rot x 18) (Nat.shiftRight x 3)
def sb (x : Nat) : Nat := xor3 (rot x 17) (rot x 19) (Nat.shiftRight x 10)
def SA (x : Nat) : Nat := xor3 (rot x 6) (rot x 11) (rot x 25)
def SB (x : Nat) : Nat := xor3 (rot x 2) (rot x 13) (rot x 22)
def chN (e f g : Nat) : Nat := Nat.xor (Nat.land e f) (Nat.land (Nat.sub 4294967295 e) g)
def majN (a b c : Nat) : Nat := xor3 (Nat.land a b) (Nat.land a c) (Nat.land b c)
def ad (a b : Nat) : Nat := Nat.mod (Nat.add a b) 4294967296
structure N8 where
  (a b c d e f g h : Nat)
def t1N (s : N8) (k w : Nat) : Nat := ad (ad (ad (ad s.h (SA s.e)) (chN s.e s.f s.g)) k) w
def t2N (s : N8) : Nat := ad (SB s.a) (majN s.a s.b s.c)
def roundN (s : N8) (k w : Nat) : N8 := fN (t1N s k w) fun x => fN (ad x (t2N s)) fun y => fN (ad s.d x) fun z => ⟨y, s.a, s.b, s.c, z, s.e, s.f, s.g⟩
/-- n more words behind those of a list, the newest first -/
def extN : Nat → List Nat → List Nat
  | 0, l => l
  | n + 1, l => match l with
    | a0 :: a1 :: a2 :: a3 :: a4 :: a5 :: a6 :: a7 :: a8 :: a9 :: a10 :: a11 :: a12 :: a13 :: a14 :: a15 :: r => fN (ad (ad (ad a15 (sa a14)) a6) (sb a1)) fun x => extN n (x :: a0 :: a1 :: a2 :: a3 :: a4 :: a5 :: a6 :: a7 :: a8 :: a9 :: a10 :: a11 :: a12 :: a13 :: a14 :: a15 :: r)
    | l => l
def revN : List Nat → List Nat → List Nat
  | [], a => a
  | x :: l, a => revN l (x :: a)
def KN : List Nat := [
  0x428a2f98, 0x71374491, 0xb5c0fbcf, 0xe9b5dba5, 0x3956c25b, 0x59f111f1, 0x923f82a4, 0xab1c5ed5,
  0xd807aa98, 0x12835b01, 0x243185be, 0x550c7dc3, 0x72be5d74, 0x80deb1fe, 0x9bdc06a7, 0xc19bf174,
  0xe49b69c1, 0xefbe4786, 0x0fc19dc6, 0x240ca1cc, 0x2de92c6f, 0x4a7484aa, 0x5cb0a9dc, 0x76f988da,
  0x983e5152, 0xa831c66d, 0xb00327c8, 0xbf597fc7, 0xc6e00bf3, 0xd5a79147, 0x06ca6351, 0x14292967,
  0x27b70a85, 0x2e1b2138, 0x4d2c6dfc, 0x53380d13, 0x650a7354, 0x766a0abb, 0x81c2c92e, 0x92722c85,
  0xa2bfe8a1, 0xa81a664b, 0xc24b8b70, 0xc76c51a3, 0xd192e819, 0xd6990624, 0xf40e3585, 0x106aa070,
  0x19a4c116, 0x1e376c08, 0x2748774c, 0x34b0bcb5, 0x391c0cb3, 0x4ed8aa4a, 0x5b9cca4f, 0x682e6ff3,
  0x748f82ee, 0x78a5636f, 0x84c87814, 0x8cc70208, 0x90befffa, 0xa4506ceb, 0xbef9a3f7, 0xc67178f2]
def forceN8 {α : Type} (s : N8) (k : N8 → α) : α := match s with
  | ⟨a, b, c, d, e, f, g, h⟩ => k ⟨a, b, c, d, e, f, g, h⟩
theorem forceN8_eq {α : Type} (s : N8) (k : N8 → α) : forceN8 s k = k s := rfl
def roundsF (f : N8 → Nat → Nat → N8) : List Nat → List Nat → N8 → N8
  | [], _, s => s
  | _ :: _, [], s => s
  | k :: ks, w :: ws, s => forceN8 (f s k w) fun s => roundsF f ks ws s
def roundsN (ks ws : List Nat) (s : N8) : N8 := roundsF roundN ks ws s
def wordsN : List Nat → List Nat → List Nat
  | a :: b :: c :: d :: r, acc => fN (Nat.add (Nat.add (Nat.add (Nat.mul a 16777216) (Nat.mul b 65536)) (Nat.mul c 256)) d) fun x => wordsN r (x :: acc)
  | _, acc => acc
def addN8 (s t : N8) : N8 := fN (ad s.a t.a) fun a => fN (ad s.b t.b) fun b => fN (ad s.c t.c) fun c => fN (ad s.d t.d) fun d => fN (ad s.e t.e) fun e => fN (ad s.f t.f) fun f => fN (ad s.g t.g) fun g => fN (ad s.h t.h) fun h => ⟨a, b, c, d, e, f, g, h⟩
def compN (s : N8) (b : List Nat) : N8 := addN8 (roundsN KN (revN (extN 48 (wordsN b [])) []) s) s
/-! ### it is the same -/
def of8 (s : S8) : N8 := ⟨s.a.toNat, s.b.toNat, s.c.toNat, s.d.toNat, s.e.toNat, s.f.toNat, s.g.toNat, s.h.toNat⟩
theorem rot_eq (x : UInt32) (n : Nat) (h1 : 1 ≤ n) (h2 : n ≤ 31) : rot x.toNat n = (rotr x n).toNat := by
  unfold rotr
  rw [UInt32.toNat_ofNat_of_lt']
  · rfl
  · refine Nat.or_lt_two_pow (n := 32) (Nat.mod_lt _ (by decide)) ?_
    exact Nat.lt_of_le_of_lt (Nat.div_le_self _ _) x.toNat_lt
theorem ad_eq (x y : UInt32) : ad x.toNat y.toNat = (x + y).toNat := by rw [UInt32.toNat_add]; rfl
theorem xor_eq (x y : UInt32) : Nat.xor x.toNat y.toNat = (x ^^^ y).toNat := by rw [UInt32.toNat_xor]; rfl
theorem and_eq (x y : UInt32) : Nat.land x.toNat y.toNat = (x &&& y).toNat := by rw [UInt32.toNat_and]; rfl
theorem not_eq (x : UInt32) : Nat.sub 4294967295 x.toNat = (~~~x).toNat := by
  rw [UInt32.toNat_not]; rfl
theorem sa_eq (x : UInt32) : sa x.toNat = (s0 x).toNat := by
  unfold sa s0 xor3
  rw [rot_eq _ _ (by decide) (by decide), rot_eq _ _ (by decide) (by decide), xor_eq]
  have : Nat.shiftRight x.toNat 3 = (x >>> 3).toNat := by rw [UInt32.toNat_shiftRight]; rfl
  rw [this, xor_eq]
theorem sb_eq (x : UInt32) : sb x.toNat = (s1 x).toNat := by
  unfold sb s1 xor3
  rw [rot_eq _ _ (by decide) (by decide), rot_eq _ _ (by decide) (by decide), xor_eq]
  have : Nat.shiftRight x.toNat 10 = (x >>> 10).toNat := by rw [UInt32.toNat_shiftRight]; rfl
  rw [this, xor_eq]
theorem SA_eq (x : UInt32) : SA x.toNat = (S1 x).toNat := by
  unfold SA S1 xor3
  rw [rot_eq _ _ (by decide) (by decide), rot_eq _ _ (by decide) (by decide), rot_eq _ _ (by decide) (by decide), xor_eq, xor_eq]
theorem SB_eq (x : UInt32) : SB x.toNat = (S0 x).toNat := by
  unfold SB S0 xor3
  rw [rot_eq _ _ (by decide) (by decide), rot_eq _ _ (by decide) (by decide), rot_eq _ _ (by decide) (by decide), xor_eq, xor_eq]
theorem ch_eq (e f g : UInt32) : chN e.toNat f.toNat g.toNat = (ch e f g).toNat := by
  unfold chN ch
  rw [not_eq, and_eq, and_eq, xor_eq]
theorem maj_eq (e f g : UInt32) : majN e.toNat f.toNat g.toNat = (maj e f g).toNat := by
  unfold majN maj xor3
  rw [and_eq, and_eq, and_eq, xor_eq, xor_eq]
theorem round_eq (s : S8) (k w : UInt32) : roundN (of8 s) k.toNat w.toNat = of8 (round s k w) := by
  have e1 : t1N (of8 s) k.toNat w.toNat = (t1 s k w).toNat := by
    unfold t1N t1 of8
    simp only
    rw [SA_eq, ch_eq, ad_eq, ad_eq, ad_eq, ad_eq]
  have e2 : t2N (of8 s) = (t2 s).toNat := by
    unfold t2N t2 of8
    simp only
    rw [SB_eq, maj_eq, ad_eq]
  unfold roundN
  rw [fN_eq, fN_eq, fN_eq, e1, e2, ad_eq]
  have e3 : ad (of8 s).d (t1 s k w).toNat = (s.d + t1 s k w).toNat := ad_eq _ _
  rw [e3]
  rfl
theorem KN_eq : KN = K.map (·.toNat) := by kernel_rfl
theorem roundsF_snoc (f : N8 → Nat → Nat → N8) : ∀ (ks ws : List Nat) (k w : Nat) (s : N8), ks.length = ws.length → roundsF f (ks ++ [k]) (ws ++ [w]) s = f (roundsF f ks ws s) k w
  | [], [], k, w, s, _ => rfl
  | [], _ :: _, _, _, _, h => by simp at h
  | _ :: _, [], _, _, _, h => by simp at h
  | a :: ks, b :: ws, k, w, s, h => roundsF_snoc f ks ws k w (f s a b) (by simpa using h)
theorem rounds_snoc (ks ws : List Nat) (k w : Nat) (s : N8) (h : ks.length = ws.length) : roundsN (ks ++ [k]) (ws ++ [w]) s = roundN (roundsN ks ws s) k w := roundsF_snoc roundN ks ws k w s h
theorem rounds_eq (w : List UInt32) (s : S8) : ∀ n, n ≤ 64 → n ≤ w.length → roundsN (KN.take n) ((w.map (·.toNat)).take n) (of8 s) = of8 (rounds w s n)
  | 0, _, _ => rfl
  | n + 1, h1, h2 => by
    have hk : n < KN.length := by show n < 64; omega
    have hw : n < (w.map (·.toNat)).length := by rw [List.length_map]; omega
    rw [List.take_succ_eq_append_getElem hk, List.take_succ_eq_append_getElem hw, rounds_snoc, rounds_eq w s n (by omega) (by omega)]
    · have e1 : KN[n] = (K.getD n 0).toNat := by
        have e0 : KN[n]? = (K[n]?).map (·.toNat) := by rw [← List.getElem?_map, ← KN_eq]
        rw [List.getElem?_eq_getElem hk] at e0
        cases hK : K[n]? with
        | none => rw [hK] at e0; cases e0
        | some k =>
          rw [hK] at e0
          simp only [Option.map_some, Option.some.injEq] at e0
          rw [List.getD_eq_getElem?_getD, hK, e0]
          rfl
      have e2 : (w.map (·.toNat))[n] = (w.getD n 0).toNat := by
        rw [List.getElem_map, List.getD_eq_getElem?_getD, List.getElem?_eq_getElem (by omega)]
        rfl
      rw [e1, e2, round_eq]
      rfl
    · rw [List.length_take, List.length_take]; simp only [List.length_map]; have : KN.length = 64 := rfl; omega
theorem revN_eq : ∀ (l a : List Nat), revN l a = l.reverse ++ a
  | [], _ => rfl
  | x :: l, a => by rw [revN, revN_eq l]; simp
theorem getD_rev (r : List UInt32) (i : Nat) (h : i < r.length) : r.reverse.getD (r.length - 1 - i) 0 = r.getD i 0 := by
  rw [List.getD_eq_getElem?_getD, List.getD_eq_getElem?_getD, List.getElem?_reverse (by omega)]
  congr 2
  omega
theorem nextN_eq (a15 a14 a6 a1 : UInt32) : ad (ad (ad a15.toNat (sa a14.toNat)) a6.toNat) (sb a1.toNat) = (a15 + s0 a14 + a6 + s1 a1).toNat := by
  rw [sa_eq, sb_eq, ad_eq, ad_eq, ad_eq]
theorem extN_cons (n a0 a1 a2 a3 a4 a5 a6 a7 a8 a9 a10 a11 a12 a13 a14 a15 : Nat) (r : List Nat) : extN (n + 1) (a0 :: a1 :: a2 :: a3 :: a4 :: a5 :: a6 :: a7 :: a8 :: a9 :: a10 :: a11 :: a12 :: a13 :: a14 :: a15 :: r) =
    extN n (ad (ad (ad a15 (sa a14)) a6) (sb a1) :: a0 :: a1 :: a2 :: a3 :: a4 :: a5 :: a6 :: a7 :: a8 :: a9 :: a10 :: a11 :: a12 :: a13 :: a14 :: a15 :: r) := by
  rw [extN, fN_eq]
theorem next_rev (a0 a1 a2 a3 a4 a5 a6 a7 a8 a9 a10 a11 a12 a13 a14 a15 : UInt32) (r : List UInt32) : next (a0 :: a1 :: a2 :: a3 :: a4 :: a5 :: a6 :: a7 :: a8 :: a9 :: a10 :: a11 :: a12 :: a13 :: a14 :: a15 :: r).reverse (a0 :: a1 :: a2 :: a3 :: a4 :: a5 :: a6 :: a7 :: a8 :: a9 :: a10 :: a11 :: a12 :: a13 :: a14 :: a15 :: r).length = a15 + s0 a14 + a6 + s1 a1 := by
  generalize hr : a0 :: a1 :: a2 :: a3 :: a4 :: a5 :: a6 :: a7 :: a8 :: a9 :: a10 :: a11 :: a12 :: a13 :: a14 :: a15 :: r = q
  have hl : q.length = r.length + 16 := by rw [← hr]; simp only [List.length_cons]
  have e15 := getD_rev q 15 (by omega)
  have e14 := getD_rev q 14 (by omega)
  have e6 := getD_rev q 6 (by omega)
  have e1 := getD_rev q 1 (by omega)
  have f15 : q.getD 15 0 = a15 := by rw [← hr]; simp only [List.getD_cons_succ, List.getD_cons_zero]
  have f14 : q.getD 14 0 = a14 := by rw [← hr]; simp only [List.getD_cons_succ, List.getD_cons_zero]
  have f6 : q.getD 6 0 = a6 := by rw [← hr]; simp only [List.getD_cons_succ, List.getD_cons_zero]
  have f1 : q.getD 1 0 = a1 := by rw [← hr]; simp only [List.getD_cons_succ, List.getD_cons_zero]
  unfold next
  rw [show q.length - 16 = q.length - 1 - 15 by omega, show q.length - 15 = q.length - 1 - 14 by omega, show q.length - 7 = q.length - 1 - 6 by omega, show q.length - 2 = q.length - 1 - 1 by omega, e15, e14, e6, e1, f15, f14, f6, f1]
theorem ext_step (n : Nat) (r : List UInt32) (h : 16 ≤ r.length) : extN (n + 1) (r.map (·.toNat)) = extN n ((next r.reverse r.length :: r).map (·.toNat)) := by
  match r, h with
  | a0 :: a1 :: a2 :: a3 :: a4 :: a5 :: a6 :: a7 :: a8 :: a9 :: a10 :: a11 :: a12 :: a13 :: a14 :: a15 :: r, _ =>
    rw [next_rev]
    simp only [List.map_cons]
    rw [extN_cons, nextN_eq]
theorem ext_length (w : List UInt32) : ∀ n, (ext w n).length = w.length + n
  | 0 => rfl
  | n + 1 => by
    show (ext w n ++ [_]).length = _
    rw [List.length_append, ext_length w n]
    rfl
theorem extN_eq (w : List UInt32) (hw : w.length = 16) : ∀ (n m : Nat), extN n ((ext w m).reverse.map (·.toNat)) = (ext w (m + n)).reverse.map (·.toNat)
  | 0, m => rfl
  | n + 1, m => by
    have hl : (ext w m).reverse.length = 16 + m := by rw [List.length_reverse, ext_length, hw]
    rw [ext_step n _ (by omega), hl, List.reverse_reverse]
    have : next (ext w m) (16 + m) :: (ext w m).reverse = (ext w (m + 1)).reverse := by
      show _ = (ext w m ++ [next (ext w m) (16 + m)]).reverse
      rw [List.reverse_append]
      rfl
    rw [this, extN_eq w hw n (m + 1)]
    congr 3
    omega
theorem be_toNat (a b c d : UInt8) : (be a b c d).toNat = Nat.add (Nat.add (Nat.add (Nat.mul a.toNat 16777216) (Nat.mul b.toNat 65536)) (Nat.mul c.toNat 256)) d.toNat := by
  unfold be
  have h1 := a.toNat_lt
  have h2 := b.toNat_lt
  have h3 := c.toNat_lt
  have h4 := d.toNat_lt
  rw [UInt32.toNat_ofNat_of_lt' (by show _ < 4294967296; omega)]
  rfl
theorem words_length (b : List UInt8) : ∀ n, (words b n).length = n
  | 0 => rfl
  | n + 1 => by
    show (words b n ++ [_]).length = _
    rw [List.length_append, words_length b n]
    rfl
theorem wordsN_eq (b : List UInt8) (hb : b.length = 64) : ∀ (k m : Nat), m + k = 16 → wordsN ((b.drop (4 * m)).map (·.toNat)) ((words b m).reverse.map (·.toNat)) = (words b 16).reverse.map (·.toNat)
  | 0, m, h => by
    have : m = 16 := by omega
    subst this
    rw [List.drop_eq_nil_of_le (by omega)]
    rfl
  | k + 1, m, h => by
    have d1 : b.drop (4 * m) = b.getD (4 * m) 0 :: b.getD (4 * m + 1) 0 :: b.getD (4 * m + 2) 0 :: b.getD (4 * m + 3) 0 :: b.drop (4 * (m + 1)) := by
      have g : ∀ i, i < 64 → b.drop i = b.getD i 0 :: b.drop (i + 1) := fun i hi => by
        rw [List.drop_eq_getElem_cons (by omega), List.getD_eq_getElem?_getD, List.getElem?_eq_getElem (by omega)]
        rfl
      rw [g _ (by omega), g (4 * m + 1) (by omega), g (4 * m + 1 + 1) (by omega), g (4 * m + 1 + 1 + 1) (by omega)]
      rfl
    rw [d1]
    simp only [List.map_cons, wordsN, fN_eq]
    rw [← be_toNat]
    have : (words b (m + 1)).reverse.map (·.toNat) = (be (b.getD (4 * m) 0) (b.getD (4 * m + 1) 0) (b.getD (4 * m + 2) 0) (b.getD (4 * m + 3) 0)).toNat :: (words b m).reverse.map (·.toNat) := by
      show (words b m ++ [word b m]).reverse.map (·.toNat) = _
      rw [List.reverse_append]
      rfl
    rw [← this]
    exact wordsN_eq b hb k (m + 1) (by omega)
theorem addN8_eq (s t : S8) : addN8 (of8 s) (of8 t) = of8 (add8 s t) := by
  unfold addN8
  simp only [fN_eq]
  unfold of8 add8
  simp only [ad_eq]
theorem compN_eq (s : S8) (b : List UInt8) (hb : b.length = 64) : compN (of8 s) (b.map (·.toNat)) = of8 (compress s b) := by
  unfold compN
  have e1 : wordsN (b.map (·.toNat)) [] = (words b 16).reverse.map (·.toNat) := wordsN_eq b hb 16 0 rfl
  have e2 : extN 48 ((words b 16).reverse.map (·.toNat)) = (ext (words b 16) 48).reverse.map (·.toNat) := extN_eq (words b 16) (words_length b 16) 48 0
  rw [e1, e2, revN_eq, List.append_nil, ← List.map_reverse, List.reverse_reverse]
  have hl : (ext (words b 16) 48).length = 64 := by rw [ext_length, words_length]
  have e3 := rounds_eq (ext (words b 16) 48) s 64 (Nat.le_refl _) (by omega)
  rw [List.take_of_length_le (by decide), List.take_of_length_le (by rw [List.length_map]; omega)] at e3
  rw [e3, addN8_eq]
  rfl
end Go.Proofs.YtdielfpgekenkaaGreatDoor.ShaN
namespace Go.Proofs.YtdielfpgekenkaaGreatDoor.ShaN
open Sha
set_option linter.unusedVariables false
def wbN (x : Nat) : List Nat := [Nat.mod (Nat.div x 16777216) 256, Nat.mod (Nat.div x 65536) 256, Nat.mod (Nat.div x 256) 256, Nat.mod x 256]
def bytesN (s : N8) : List Nat := wbN s.a ++ wbN s.b ++ wbN s.c ++ wbN s.d ++ wbN s.e ++ wbN s.f ++ wbN s.g ++ wbN s.h
def blocksN : Nat → N8 → List Nat → N8
  | 0, s, _ => s
  | n + 1, s, l => match Nat.ble 64 l.length with
    | true => forceN8 (compN s (l.take 64)) fun s => blocksN n s (l.drop 64)
    | false => s
def H0N : N8 := ⟨0x6a09e667, 0xbb67ae85, 0x3c6ef372, 0xa54ff53a, 0x510e527f, 0x9b05688c, 0x1f83d9ab, 0x5be0cd19⟩
def eightN (n : Nat) : List Nat :=
  [Nat.mod (n / 72057594037927936) 256, Nat.mod (n / 281474976710656) 256, Nat.mod (n / 1099511627776) 256, Nat.mod (n / 4294967296) 256,
   Nat.mod (n / 16777216) 256, Nat.mod (n / 65536) 256, Nat.mod (n / 256) 256, Nat.mod n 256]
def padN (n : Nat) : List Nat := 128 :: List.replicate (zeros n) 0 ++ eightN (8 * n)
def feedN (s : N8) (l : List Nat) : N8 := blocksN (l.length / 64) s l
def restN (l : List Nat) : List Nat := l.drop (l.length / 64 * 64)
def digN (l : List Nat) : List Nat := forceN8 (feedN H0N l) fun s => forceN8 (feedN s (restN l ++ padN l.length)) fun s => bytesN s
abbrev nats (l : List UInt8) : List Nat := l.map (·.toNat)
theorem u8_mod (n : Nat) : (UInt8.ofNat n).toNat = Nat.mod n 256 := by
  rw [UInt8.toNat_ofNat']; rfl
theorem wbN_eq (x : UInt32) : wbN x.toNat = nats (wb x) := by
  unfold wb nats wbN
  simp only [List.map_cons, List.map_nil, u8_mod]
  rfl
theorem bytesN_eq (s : S8) : bytesN (of8 s) = nats (Sha.bytes s) := by
  unfold bytesN Sha.bytes nats of8
  simp only [wbN_eq, List.map_append]
theorem blocksN_eq : ∀ (n : Nat) (s : S8) (l : List UInt8), blocksN n (of8 s) (nats l) = of8 (blocks s n l)
  | 0, _, _ => rfl
  | n + 1, s, l => by
    unfold blocksN blocks
    by_cases h : 64 ≤ l.length
    · have hb : Nat.ble 64 (nats l).length = true := by rw [Nat.ble_eq, List.length_map]; exact h
      rw [hb, if_pos h]
      simp only [forceN8_eq]
      have e1 : (nats l).take 64 = nats (l.take 64) := by simp [nats]
      have e2 : (nats l).drop 64 = nats (l.drop 64) := by simp [nats]
      rw [e1, e2, compN_eq _ _ (by simp; omega), blocksN_eq n]
    · have hb : Nat.ble 64 (nats l).length = false := by
        cases hc : Nat.ble 64 (nats l).length with
        | false => rfl
        | true => rw [Nat.ble_eq, List.length_map] at hc; exact absurd hc h
      rw [hb, if_neg h]
theorem feedN_eq (s : S8) (l : List UInt8) : feedN (of8 s) (nats l) = of8 (feed s l) := by
  unfold feedN feed
  rw [List.length_map, blocksN_eq]
theorem eightN_eq (n : Nat) : eightN n = nats (eight n) := by
  unfold eightN eight nats
  simp only [List.map_cons, List.map_nil, u8_mod]
theorem padN_eq (n : Nat) : padN n = nats (pad n) := by
  unfold padN pad
  rw [eightN_eq]
  simp [nats]
theorem H0N_eq : H0N = of8 H0 := by kernel_rfl
theorem digN_eq (m : List UInt8) : digN (nats m) = nats (digest m) := by
  unfold digN digest sum
  simp only [forceN8_eq]
  have e : restN (nats m) = nats (rest m) := by simp [restN, rest, nats]
  rw [H0N_eq, feedN_eq, e, List.length_map, padN_eq]
  have e2 : nats (rest m) ++ nats (pad m.length) = nats (rest m ++ pad m.length) := by simp [nats]
  rw [e2, feedN_eq, bytesN_eq]
end Go.Proofs.YtdielfpgekenkaaGreatDoor.ShaN
namespace Go.Proofs.YtdielfpgekenkaaGreatDoor.Sx
open Go Vm
set_option linter.unusedSimpArgs false
set_option linter.unusedVariables false
noncomputable section
--DEFS
def partsL (st : St) : List SV → Option (List (List Nat))
  | [] => some []
  | v :: r => (lenS v).bind fun _ => (Cx.elemsS st 1 v).bind fun l => (bytesS l).bind fun b => (partsL st r).map (b :: ·)
def partsS (st : St) (x : SV) : Option (List (List Nat)) := (lenS x).bind fun _ => (Cx.elemsS st 1 x).bind fun l => partsL st l
/-- the digest of parts -/
def hOf (args : List SV) (st : St) : Option (SV × St) :=
  match args with
  | [x] => (partsS st x).bind fun ps => match Nat.blt ps.flatten.length 1048576 with
    | true => forceNs (ShaN.digN ps.flatten) fun d => some (.agg (d.map cellB), st)
    | false => none
  | _ => none
--END
theorem src_all {st : St} {σ : Env} {h : Heap} (hO : Obs st σ h) (hdom : ∀ i q, σ i = some q → q.1 < h.size) {x : SV} {new : List SV} {xv : Value} {n : Nat} (hn : lenS x = some n) (he : Cx.elemsS st 1 x = some new) (hx : den σ x = some xv) :
    ∃ ds, denL σ new = some ds ∧ Vm.Src h 1 xv n ds ∧ (∀ b, ob xv b → b < h.size) := by
  have hob : ∀ b, ob xv b → b < h.size := by
    intro b hb
    unfold lenS at hn
    split at hn
    · simp only [den, Option.some.injEq] at hx
      subst hx
      exact (ob_nil hb).elim
    · obtain ⟨q, hq, hc, rfl⟩ := den_sl hx
      rw [ob_slice] at hb; subst hb
      exact hdom _ _ hq
    · obtain ⟨q, hq, hc, rfl⟩ := den_sg hx
      rw [ob_slice] at hb; subst hb
      exact hdom _ _ hq
    · simp only [den, Option.bind_eq_some_iff] at hx
      obtain ⟨q, hq, hx⟩ := hx
      split at hx
      · cases hx
        rw [ob_slice] at hb; subst hb
        exact hdom _ _ hq
      · cases hx
    · cases hn
  by_cases h0 : n = 0
  · subst h0
    have hnew : new = [] := by
      unfold lenS at hn
      split at hn
      · simp only [Cx.elemsS, Option.some.injEq] at he; exact he.symm
      · cases hn
        simp only [Cx.elemsS, Option.bind_eq_some_iff] at he
        obtain ⟨r, _, he⟩ := he
        split at he
        · cases he; simp
        · cases he
      · cases hn
        simp only [Cx.elemsS, Option.bind_eq_some_iff] at he
        obtain ⟨r, _, he⟩ := he
        split at he
        · cases he; simp
        · cases he
      · simp only [Cx.elemsS, Option.some.injEq] at he; exact he.symm
      · cases hn
    subst hnew
    refine ⟨[], rfl, ⟨rfl, ?_⟩, hob⟩
    unfold lenS at hn
    split at hn
    · simp only [den, Option.some.injEq] at hx
      exact .inl ⟨hx.symm, rfl⟩
    · cases hn
      obtain ⟨q, hq, hc, rfl⟩ := den_sl hx
      exact .inr ⟨_, _, rfl, hc.1, hc.2, fun j u hj => by simp at hj⟩
    · cases hn
      obtain ⟨q, hq, hc, rfl⟩ := den_sg hx
      exact .inr ⟨_, _, rfl, by omega, by omega, fun j u hj => by simp at hj⟩
    · simp only [den, Option.bind_eq_some_iff] at hx
      obtain ⟨q, hq, hx⟩ := hx
      split at hx
      · rename_i hc
        cases hx
        exact .inr ⟨_, _, rfl, by omega, by omega, fun j u hj => by simp at hj⟩
      · cases hx
    · cases hn
  · obtain ⟨ds, h1, h2, _⟩ := src_of hO hn he hx h0
    exact ⟨ds, h1, h2, hob⟩
theorem u8n_of {bs : List Nat} (h : bs.all (Nat.blt · 256) = true) : ShaN.nats (bs.map UInt8.ofNat) = bs := by
  unfold ShaN.nats
  rw [List.map_map]
  conv => rhs; rw [← List.map_id bs]
  apply List.map_congr_left
  intro b hb
  have hlt : b < 256 := by simpa using List.all_eq_true.1 h b hb
  simp only [Function.comp, id, UInt8.toNat_ofNat_of_lt' hlt]
theorem partsL_ok {st : St} {σ : Env} {h : Heap} (hO : Obs st σ h) (hdom : ∀ i q, σ i = some q → q.1 < h.size) : ∀ (l : List SV) (ps : List (List Nat)) (pv : List Value), partsL st l = some ps → denL σ l = some pv →
    ps.length = l.length ∧ (∀ p ∈ ps, p.all (Nat.blt · 256) = true) ∧ ∀ (i : Nat) (p : List Nat), ps[i]? = some p → ∃ v, pv[i]? = some v ∧ RD (fun b => b < h.size) h v (p.map UInt8.ofNat)
  | [], ps, pv, e, hv => by
    simp only [partsL, Option.some.injEq] at e
    subst e
    exact ⟨rfl, (fun p hp => by cases hp), fun i p hp => by simp at hp⟩
  | x :: l, ps, pv, e, hv => by
    simp only [partsL, Option.bind_eq_some_iff, Option.map_eq_some_iff] at e
    obtain ⟨n, hn, new, he, bs, hb, qs, hq, rfl⟩ := e
    simp only [denL, Option.bind_eq_some_iff, Option.map_eq_some_iff] at hv
    obtain ⟨xv, hx, us, hus, rfl⟩ := hv
    obtain ⟨ds, h1, h2, h3⟩ := src_all hO hdom hn he hx
    obtain ⟨b1, b2⟩ := bytesS_ok new bs ds hb h1
    rw [u8_of b1] at b2
    obtain ⟨g1, g2, g3⟩ := partsL_ok hO hdom l qs us hq hus
    refine ⟨by simp [g1], fun p hp => ?_, fun i p hp => ?_⟩
    · rcases List.mem_cons.1 hp with rfl | hp
      · exact b1
      · exact g2 p hp
    · cases i with
      | zero =>
        simp only [List.getElem?_cons_zero, Option.some.injEq] at hp
        subst hp
        refine ⟨xv, rfl, ?_, fun _ b hb => h3 b hb⟩
        unfold RB
        rw [b2] at h2
        have : n = (bs.map UInt8.ofNat).length := by
          have := h2.1
          simpa using this.symm
        rw [← this]
        exact h2
      | succ i =>
        simp only [List.getElem?_cons_succ] at hp ⊢
        exact g3 i p hp
theorem parts_ok {st : St} {σ : Env} {h : Heap} (hO : Obs st σ h) (hdom : ∀ i q, σ i = some q → q.1 < h.size) {x : SV} {ps : List (List Nat)} {xv : Value} (e : partsS st x = some ps) (hx : den σ x = some xv) :
    ∃ pv, PD (fun b => b < h.size) h xv (ps.map (·.map UInt8.ofNat)) pv ∧ (∀ p ∈ ps, p.all (Nat.blt · 256) = true) := by
  simp only [partsS, Option.bind_eq_some_iff] at e
  obtain ⟨n, hn, new, he, e⟩ := e
  obtain ⟨ds, h1, h2, h3⟩ := src_all hO hdom hn he hx
  obtain ⟨g1, g2, g3⟩ := partsL_ok hO hdom new ps ds e h1
  refine ⟨ds, ⟨?_, fun _ => h3, fun i m hm => ?_⟩, g2⟩
  · have : n = (ps.map (·.map UInt8.ofNat)).length := by
      have h4 := h2.1
      have h5 := denL_length _ _ h1
      rw [List.length_map, g1]
      omega
    rw [← this]
    exact h2
  · rw [List.getElem?_map] at hm
    cases hp : ps[i]? with
    | none => rw [hp] at hm; cases hm
    | some p =>
      rw [hp] at hm
      simp only [Option.map_some, Option.some.injEq] at hm
      subst hm
      exact g3 i p hp
theorem flat_nats {ps : List (List Nat)} (h : ∀ p ∈ ps, p.all (Nat.blt · 256) = true) : ShaN.nats (ps.map (·.map UInt8.ofNat)).flatten = ps.flatten := by
  induction ps with
  | nil => rfl
  | cons p ps ih =>
    have h1 := u8n_of (h p List.mem_cons_self)
    have h2 := ih fun q hq => h q (List.mem_cons_of_mem _ hq)
    unfold ShaN.nats at h1 h2 ⊢
    rw [List.map_cons, List.flatten_cons, List.flatten_cons, List.map_append, h1, h2]
theorem dig_den (σ : Env) (l : List UInt8) : den σ (.agg ((ShaN.nats l).map cellB)) = some (.agg (l.map u8v).toArray) := by
  have : ∀ l : List UInt8, denL σ ((ShaN.nats l).map cellB) = some (l.map u8v) := by
    intro l
    induction l with
    | nil => rfl
    | cons b l ih =>
      unfold ShaN.nats at ih ⊢
      simp only [List.map_cons, denL, ih, cellB, den, Option.bind_some, Option.map_some]
      rfl
  simp only [den, this, Option.map_some]
theorem of_ok {C : Cx} (hP : C.P = Tryz.prog) {args : List SV} {st st' : St} {s : SV} (e : hOf args st = some (s, st')) {σ : Env} {h : Heap} {vs : List Value} (H : Rep C.ng st σ h) (hv : denL σ args = some vs) :
    Fx C.P 198 vs.toArray h fun v h' => ∃ σ', den σ' s = some v ∧ Goes C.ng st σ h st' σ' h' := by
  rw [hP]
  unfold hOf at e
  split at e
  · rename_i x
    simp only [Option.bind_eq_some_iff] at e
    obtain ⟨ps, hps, e⟩ := e
    simp only [denL, Option.bind_eq_some_iff, Option.map_eq_some_iff] at hv
    obtain ⟨xv, hx, _, h0, rfl⟩ := hv
    cases h0
    obtain ⟨pv, hPD, hall⟩ := parts_ok (H.obs (Pre.refl _)) (fun i q hq => (H.dom i q hq).2) hps hx
    split at e
    · rename_i hlen
      rw [forceNs_eq] at e
      cases e
      rw [Nat.blt_eq] at hlen
      have hf := flat_nats hall
      have hl2 : (ps.map (·.map UInt8.ofNat)).flatten.length = ps.flatten.length := by have := congrArg List.length hf; rwa [List.length_map] at this
      refine (of_fn hPD (fun b hb => hb) (by omega)).mono ?_
      rintro v h' ⟨rfl, hxt⟩
      refine ⟨σ, ?_, H.ext hxt, Steps.ext _ _ _ hxt, Nat.le_refl _, Nat.le_refl _⟩
      rw [← hf, ShaN.digN_eq, dig_den]
    · cases e
  · cases e
end
end Go.Proofs.YtdielfpgekenkaaGreatDoor.Sx
namespace Go.Proofs.YtdielfpgekenkaaGreatDoor.Sha
def okc (c : UInt8) : Bool := c.toNat == 46 || (decide (97 ≤ c.toNat) && decide (c.toNat ≤ 122))
def isTag (s : List UInt8) : Bool := s.all okc && (decide (1 ≤ s.length) && decide (s.length ≤ 32))
theorem isTag_no {s : List UInt8} {i : Nat} (hi : i < s.length) (h : okc (s.getD i 0) = false) : isTag s = false := by
  have : s.all okc = false := by
    rw [List.all_eq_false]
    refine ⟨s.getD i 0, ?_, by rw [h]; exact Bool.false_ne_true⟩
    rw [List.getD_eq_getElem?_getD, List.getElem?_eq_getElem hi]
    exact List.getElem_mem hi
  unfold isTag
  rw [this]
  rfl
theorem isTag_yes {s : List UInt8} (h : ∀ i, i < s.length → okc (s.getD i 0) = true) : isTag s = (decide (1 ≤ s.length) && decide (s.length ≤ 32)) := by
  have : s.all okc = true := by
    rw [List.all_eq_true]
    intro x hx
    obtain ⟨i, hi, rfl⟩ := List.getElem_of_mem hx
    have := h i hi
    rwa [List.getD_eq_getElem?_getD, List.getElem?_eq_getElem hi] at this
  unfold isTag
  rw [this, Bool.true_and]
end Go.Proofs.YtdielfpgekenkaaGreatDoor.Sha
namespace Go.Proofs.YtdielfpgekenkaaGreatDoor
open Go Vm
set_option maxRecDepth 100000
theorem u8_ne_nat (c : UInt8) (n : Nat) : ((c.toNat : Int) != (n : Int)) = !decide (c.toNat = n) := by
  by_cases h : c.toNat = n
  · rw [h]; simp
  · have : (c.toNat : Int) ≠ (n : Int) := by omega
    simp [h, this]
theorem tagged_fn (s : List UInt8) (hs : s.length ≤ maxLen) : FxP Tryz.prog 313 #[.string (bs s)] (.bool (Sha.isTag s)) := by
  intro h
  refine fn_of 34 Tryz.func313 rfl (by kernel_rfl) rfl (by simp) ?_
  have hmax : maxLen < 9223372036854775808 := by decide
  refine cw_seq (cw_region rfl ?_)
  refine cw_seq (cw_seq (cw_region rfl ?_))
  conv => whnf
  refine cw_block ?_
  refine cw_loop (S := Nat) (fun t => [(0, .string (bs s)), (5, .int .i64 (s.length : Int)), (6, .int .i64 (t : Int))])
    (fun t h' => t ≤ s.length ∧ (∀ i, i < t → Sha.okc (s.getD i 0) = true) ∧ h' = h) (fun t => s.length - t) 0 ⟨rfl, rfl, rfl, trivial⟩ ⟨by omega, fun i hi => by omega, rfl⟩ ?_
  rintro t h0 ⟨ht, hok, e⟩
  subst h0
  refine cw_seq (cw_region rfl ?_)
  by_cases hlt : t < s.length
  · refine cw_seq (cw_yes rfl (by omega) (cw_skip ?_))
    refine cw_seq (cw_block (cw_seq (cw_region rfl ?_)))
    conv => whnf
    have hc := u8_lt (s.getD t 0)
    have hg : (bs s)[((t : Int)).toNat]? = some (s.getD t 0) := by
      rw [show ((t : Int)).toNat = t by omega]
      exact bs_get s t hlt
    generalize hcc : s.getD t 0 = c at *
    have next : Sha.okc c = true → ∀ i, i < t + 1 → Sha.okc (s.getD i 0) = true := fun h1 i hi => by
      by_cases hi' : i < t
      · exact hok i hi'
      · have : i = t := by omega
        rw [this, hcc]; exact h1
    refine cw_seq (cw_region rfl ?_)
    conv => whnf
    refine ⟨c, ⟨by omega, hg⟩, ?_⟩
    by_cases h46 : c.toNat = 46
    · refine ops_q (v := .bool false) rfl rfl (fun k hk => ?_) ?_
      · show k (.bool ((c.toNat : Int) != ((46 : Nat) : Int)))
        rw [u8_ne_nat, decide_eq_true h46]; exact hk
      conv => whnf
      refine cw_false rfl (cw_skip ?_)
      refine cw_region rfl ?_
      exact ⟨t + 1, ⟨rfl, rfl, slot_i64 _ _ (by omega) (by omega), trivial⟩, ⟨by omega, next (by simp [Sha.okc, h46]), rfl⟩, by omega⟩
    · refine ops_q (v := .bool true) rfl rfl (fun k hk => ?_) ?_
      · show k (.bool ((c.toNat : Int) != ((46 : Nat) : Int)))
        rw [u8_ne_nat, decide_eq_false h46]; exact hk
      conv => whnf
      refine ⟨c, ⟨by omega, hg⟩, ?_⟩
      by_cases h97 : c.toNat < 97
      · refine ops_g (v := .bool true) (b := true) rfl rfl rfl rfl (fun k hk => say true (decide_eq_true (by omega)) hk) ?_
        conv => whnf
        refine cw_true rfl (cw_seq (cw_region rfl ?_))
        have e : Sha.isTag s = false := Sha.isTag_no hlt (by rw [hcc]; simp [Sha.okc, h46]; omega)
        rw [e]
        exact cw_ret ⟨rfl, rfl⟩
      · refine ops_g (v := .bool false) (b := true) rfl rfl rfl rfl (fun k hk => say false (decide_eq_false (by omega)) hk) ?_
        conv => whnf
        refine ⟨c, ⟨by omega, hg⟩, ?_⟩
        conv => whnf
        by_cases h122 : 122 < c.toNat
        · refine cw_yes rfl (by omega) (cw_seq (cw_region rfl ?_))
          have e : Sha.isTag s = false := Sha.isTag_no hlt (by rw [hcc]; simp [Sha.okc, h46]; omega)
          rw [e]
          exact cw_ret ⟨rfl, rfl⟩
        · refine cw_no rfl (by omega) (cw_skip ?_)
          refine cw_region rfl ?_
          exact ⟨t + 1, ⟨rfl, rfl, slot_i64 _ _ (by omega) (by omega), trivial⟩, ⟨by omega, next (by simp [Sha.okc]; omega), rfl⟩, by omega⟩
  · refine cw_seq (cw_no rfl (by omega) (cw_exit ?_))
    have e := Sha.isTag_yes (s := s) (fun i hi => hok i (by omega))
    rw [e]
    refine cw_seq (cw_region rfl ?_)
    refine ops_q rfl rfl (fun k hk => hk) ?_
    refine ops_q rfl rfl (fun k hk => hk) ?_
    by_cases h1 : 1 ≤ s.length
    · refine ops_q (v := .bool true) rfl rfl (fun k hk => say true (decide_eq_true (by show (1 : Int) ≤ (s.length : Int); omega)) hk) ?_
      conv => whnf
      refine cw_ret ⟨?_, rfl⟩
      rw [decide_eq_true h1, Bool.true_and]
      show Value.bool (decide ((s.length : Int) ≤ 32)) = _
      congr 1
      simp only [decide_eq_decide]
      omega
    · refine ops_q (v := .bool false) rfl rfl (fun k hk => say false (decide_eq_false (by show ¬ (1 : Int) ≤ (s.length : Int); omega)) hk) ?_
      conv => whnf
      refine cw_ret ⟨?_, rfl⟩
      rw [decide_eq_false h1, Bool.false_and]
      rfl
theorem rtag_fn (s : List UInt8) (hs : s.length ≤ maxLen) : FxP Tryz.prog 576 #[.string (bs s)] (.bool (Sha.isTag s)) := by
  intro h
  refine fn_of 34 Tryz.func576 rfl (by kernel_rfl) rfl (by simp) ?_
  have hmax : maxLen < 9223372036854775808 := by decide
  refine cw_seq (cw_region rfl ?_)
  refine cw_seq (cw_seq (cw_region rfl ?_))
  conv => whnf
  refine cw_block ?_
  refine cw_loop (S := Nat) (fun t => [(0, .string (bs s)), (3, .int .i64 (t : Int))])
    (fun t h' => t ≤ s.length ∧ (∀ i, i < t → Sha.okc (s.getD i 0) = true) ∧ h' = h) (fun t => s.length - t) 0 ⟨rfl, rfl, trivial⟩ ⟨by omega, fun i hi => by omega, rfl⟩ ?_
  rintro t h0 ⟨ht, hok, e⟩
  subst h0
  refine cw_seq (cw_seq (cw_region rfl ?_))
  conv => whnf
  by_cases hlt : t < s.length
  · refine cw_yes rfl (by show (t : Int) < (s.length : Int); omega) (cw_skip ?_)
    have hc := u8_lt (s.getD t 0)
    have hg : (bs s)[((t : Int)).toNat]? = some (s.getD t 0) := by
      rw [show ((t : Int)).toNat = t by omega]
      exact bs_get s t hlt
    generalize hcc : s.getD t 0 = c at *
    have next : Sha.okc c = true → ∀ i, i < t + 1 → Sha.okc (s.getD i 0) = true := fun h1 i hi => by
      by_cases hi' : i < t
      · exact hok i hi'
      · have : i = t := by omega
        rw [this, hcc]; exact h1
    refine cw_seq (cw_block (cw_seq (cw_region rfl ?_)))
    conv => whnf
    refine ⟨c, ⟨by omega, hg⟩, ?_⟩
    by_cases h46 : c.toNat = 46
    · refine ops_q (v := .bool false) rfl rfl (fun k hk => ?_) ?_
      · show k (.bool ((c.toNat : Int) != ((46 : Nat) : Int)))
        rw [u8_ne_nat, decide_eq_true h46]; exact hk
      conv => whnf
      refine cw_false rfl (cw_skip ?_)
      refine cw_region rfl ?_
      exact ⟨t + 1, ⟨rfl, slot_i64 _ _ (by omega) (by omega), trivial⟩, ⟨by omega, next (by simp [Sha.okc, h46]), rfl⟩, by omega⟩
    · refine ops_q (v := .bool true) rfl rfl (fun k hk => ?_) ?_
      · show k (.bool ((c.toNat : Int) != ((46 : Nat) : Int)))
        rw [u8_ne_nat, decide_eq_false h46]; exact hk
      conv => whnf
      refine ⟨c, ⟨by omega, hg⟩, ?_⟩
      by_cases h97 : c.toNat < 97
      · refine ops_g (v := .bool true) (b := true) rfl rfl rfl rfl (fun k hk => say true (decide_eq_true (by omega)) hk) ?_
        conv => whnf
        refine cw_true rfl (cw_seq (cw_region rfl ?_))
        have e : Sha.isTag s = false := Sha.isTag_no hlt (by rw [hcc]; simp [Sha.okc, h46]; omega)
        rw [e]
        exact cw_ret ⟨rfl, rfl⟩
      · refine ops_g (v := .bool false) (b := true) rfl rfl rfl rfl (fun k hk => say false (decide_eq_false (by omega)) hk) ?_
        conv => whnf
        refine ⟨c, ⟨by omega, hg⟩, ?_⟩
        conv => whnf
        by_cases h122 : 122 < c.toNat
        · refine cw_yes rfl (by omega) (cw_seq (cw_region rfl ?_))
          have e : Sha.isTag s = false := Sha.isTag_no hlt (by rw [hcc]; simp [Sha.okc, h46]; omega)
          rw [e]
          exact cw_ret ⟨rfl, rfl⟩
        · refine cw_no rfl (by omega) (cw_skip ?_)
          refine cw_region rfl ?_
          exact ⟨t + 1, ⟨rfl, slot_i64 _ _ (by omega) (by omega), trivial⟩, ⟨by omega, next (by simp [Sha.okc]; omega), rfl⟩, by omega⟩
  · refine cw_no rfl (by show ¬ (t : Int) < (s.length : Int); omega) (cw_exit ?_)
    have e := Sha.isTag_yes (s := s) (fun i hi => hok i (by omega))
    rw [e]
    refine cw_seq (cw_region rfl ?_)
    refine ops_q rfl rfl (fun k hk => hk) ?_
    refine ops_q rfl rfl (fun k hk => hk) ?_
    by_cases h1 : 1 ≤ s.length
    · refine ops_q (v := .bool true) rfl rfl (fun k hk => say true (decide_eq_true (by show (1 : Int) ≤ (s.length : Int); omega)) hk) ?_
      conv => whnf
      refine cw_ret ⟨?_, rfl⟩
      rw [decide_eq_true h1, Bool.true_and]
      show Value.bool (decide ((s.length : Int) ≤ 32)) = _
      congr 1
      simp only [decide_eq_decide]
      omega
    · refine ops_q (v := .bool false) rfl rfl (fun k hk => say false (decide_eq_false (by show ¬ (1 : Int) ≤ (s.length : Int); omega)) hk) ?_
      conv => whnf
      refine cw_ret ⟨?_, rfl⟩
      rw [decide_eq_false h1, Bool.false_and]
      rfl
end Go.Proofs.YtdielfpgekenkaaGreatDoor
namespace Go.Proofs.YtdielfpgekenkaaGreatDoor.Sha
def encP (ms : List (List UInt8)) : List UInt8 := ms.flatMap fun m => eight m.length ++ m
def pre (s : List UInt8) (ms : List (List UInt8)) : List UInt8 := UInt8.ofNat s.length :: (s ++ encP ms)
theorem eight_inj {n m : Nat} (hn : n < 18446744073709551616) (hm : m < 18446744073709551616) (h : eight n = eight m) : n = m := by
  have e : ∀ i, i < 8 → (n / 2 ^ (56 - 8 * i)) % 256 = (m / 2 ^ (56 - 8 * i)) % 256 := fun i hi => by
    have h1 := congrArg (fun l => (l.getD i 0).toNat) h
    have : i = 0 ∨ i = 1 ∨ i = 2 ∨ i = 3 ∨ i = 4 ∨ i = 5 ∨ i = 6 ∨ i = 7 := by omega
    rcases this with rfl | rfl | rfl | rfl | rfl | rfl | rfl | rfl <;> simpa [eight] using h1
  have e0 := e 0 (by omega); have e1 := e 1 (by omega); have e2 := e 2 (by omega); have e3 := e 3 (by omega)
  have e4 := e 4 (by omega); have e5 := e 5 (by omega); have e6 := e 6 (by omega); have e7 := e 7 (by omega)
  simp only [Nat.mul_zero, Nat.sub_zero, Nat.reduceMul, Nat.reduceSub, Nat.reducePow, Nat.pow_zero, Nat.div_one] at e0 e1 e2 e3 e4 e5 e6 e7
  clear e h
  omega
def small (ms : List (List UInt8)) : Prop := ∀ m ∈ ms, m.length < 18446744073709551616
theorem encP_cons (m : List UInt8) (ms : List (List UInt8)) : encP (m :: ms) = eight m.length ++ (m ++ encP ms) := by simp [encP]
theorem encP_step {m n : List UInt8} {xs ys : List UInt8} (hm : m.length < 18446744073709551616) (hn : n.length < 18446744073709551616) (h : eight m.length ++ (m ++ xs) = eight n.length ++ (n ++ ys)) : m = n ∧ xs = ys := by
  obtain ⟨h1, h2⟩ := List.append_inj h (by simp [eight_length])
  exact List.append_inj h2 (eight_inj hm hn h1)
theorem encP_inj : ∀ {ms ns : List (List UInt8)}, small ms → small ns → encP ms = encP ns → ms = ns
  | [], [], _, _, _ => rfl
  | [], n :: ns, _, _, h => by
    have := congrArg List.length h
    rw [encP_cons] at this
    simp [eight_length, encP] at this
    omega
  | m :: ms, [], _, _, h => by
    have := congrArg List.length h
    rw [encP_cons] at this
    simp [eight_length, encP] at this
  | m :: ms, n :: ns, h1, h2, h => by
    rw [encP_cons, encP_cons] at h
    obtain ⟨rfl, h3⟩ := encP_step (h1 m (by simp)) (h2 n (by simp)) h
    rw [encP_inj (fun x hx => h1 x (by simp [hx])) (fun x hx => h2 x (by simp [hx])) h3]
/-- one that begins with another one of as many parts is that one -/
theorem encP_prefix : ∀ {ms ns : List (List UInt8)} {t : List UInt8}, small ms → small ns → ms.length = ns.length → encP ns ++ t = encP ms → ms = ns
  | [], [], _, _, _, _, _ => rfl
  | [], n :: ns, _, _, _, hl, _ => by simp at hl
  | m :: ms, [], _, _, _, hl, _ => by simp at hl
  | m :: ms, n :: ns, t, h1, h2, hl, h => by
    rw [encP_cons, encP_cons, List.append_assoc, List.append_assoc] at h
    obtain ⟨rfl, h3⟩ := encP_step (h2 n (by simp)) (h1 m (by simp)) h
    rw [encP_prefix (fun x hx => h1 x (by simp [hx])) (fun x hx => h2 x (by simp [hx])) (by simpa using hl) h3]
theorem len_inj {s t : List UInt8} (hs : s.length ≤ 32) (ht : t.length ≤ 32) (h : UInt8.ofNat s.length = UInt8.ofNat t.length) : s.length = t.length := by
  have := congrArg UInt8.toNat h
  simp at this
  omega
theorem pre_inj {s t : List UInt8} {ms ns : List (List UInt8)} (hs : s.length ≤ 32) (ht : t.length ≤ 32) (h1 : small ms) (h2 : small ns) : pre s ms = pre t ns ↔ s = t ∧ ms = ns := by
  constructor
  · intro h
    unfold pre at h
    injection h with h3 h4
    obtain ⟨h5, h6⟩ := List.append_inj h4 (len_inj hs ht h3)
    exact ⟨h5, encP_inj h1 h2 h6⟩
  · rintro ⟨rfl, rfl⟩; rfl
/-- no preimage begins with another one of the same tag and as many parts -/
theorem pre_apart {s : List UInt8} {ms ns : List (List UInt8)} (h1 : small ms) (h2 : small ns) (hl : ms.length = ns.length) (hn : ms ≠ ns) : (pre s ms).take (pre s ns).length ≠ pre s ns := by
  intro h
  have h4 : pre s ns ++ (pre s ms).drop (pre s ns).length = pre s ms := by
    have := List.take_append_drop (pre s ns).length (pre s ms)
    rwa [h] at this
  unfold pre at h4
  simp only [List.cons_append, List.append_assoc] at h4
  injection h4 with _ h5
  exact hn (encP_prefix h1 h2 hl (List.append_cancel_left h5))
theorem isTag_len {s : List UInt8} (h : isTag s = true) : 1 ≤ s.length ∧ s.length ≤ 32 := by
  unfold isTag at h
  simp only [Bool.and_eq_true, decide_eq_true_eq] at h
  exact h.2
end Go.Proofs.YtdielfpgekenkaaGreatDoor.Sha
namespace Go.Proofs.YtdielfpgekenkaaGreatDoor
open Go Vm
set_option maxRecDepth 100000
/-- the bytes of a text behind one byte of our own -/
theorem append_str {h : Heap} {g : Nat} {c : UInt8} {s : List UInt8} {ty : TypeId} (hg : Blk h g [u8v c] 5) (hs1 : 1 ≤ s.length) (hs2 : s.length ≤ 32) :
    RunsV Tryz.prog (Builtin.append_ #[170, 9] ty #[.slice (some ⟨g, 0, none⟩) 1 1, .string (bs s)]) h fun v' h' => OB h' v' (c :: s) ∧ ExtH h h' ∧ ∀ b, ob v' b → h.size ≤ b := by
  intro w hw
  subst hw
  obtain ⟨i0, hi, hz0, hz1, hz2⟩ := info_parts info8
  have hold := (Src.ofSlice (P := Tryz.prog) w (size := i0.size) (tx := 170) Tryz.underlying170 ⟨g, 0, none⟩ 1 1 [u8v c] (by rw [hz1]; rfl) (fun j u hj => by
    rw [add_none, cell_eq_rd]
    exact hg.rdN 0 [u8v c] rfl j u hj) (by simp [u8v, Value.oneCell'])).cellsD
  have hsz : (bs s).size = s.length := rfl
  have hsrc := Src.ofString (P := Tryz.prog) w (tx := 9) Tryz.underlying9 (bs s)
  rw [← hz1, hsz] at hsrc
  have hrun := run_append_grow_src (P := Tryz.prog) w 170 9 ty 5 i0 (.int .u8 0) Tryz.underlying170 hi hz0 (some ⟨g, 0, none⟩) 1 1 [u8v c] hold (.string (bs s)) s.length (byteCells (bs s)) hsrc (by omega) (by omega)
    (growslice_fits (by omega) (by rw [hz2]; omega))
  refine ⟨_, _, hrun, ⟨rfl, rfl, rfl⟩, ?_, alloc_ext w _, fun d hd' => by rw [ob_slice] at hd'; omega⟩
  have hb : [u8v c] ++ byteCells (bs s) = (c :: s).map u8v := by simp [byteCells, bs, u8v]
  have hm : 1 + s.length ≤ maxLen := by simp only [maxLen]; omega
  have := owns_grown (e := 5) (w := w) (z := .int .u8 0) (by rw [hz1]; rfl) hz1 (xs := (c :: s).map u8v) (N := 1 + s.length) (by simp; omega) (grownCap_ge w (1 + s.length) 1 5) (grownCap_le_maxLen w (1 + s.length) 1 5 hm)
  rw [hb]
  unfold OB
  rw [show (c :: s).length = 1 + s.length by simp; omega]
  exact this
theorem PD.fix {D : Nat → Prop} {h : Heap} {x : Value} {ms : List (List UInt8)} {pv : List Value} (H : PD D h x ms pv) : ∃ a c, x = .slice a ms.length c ∧ ms.length ≤ maxLen := by
  rcases H.form with ⟨rfl, rfl⟩ | ⟨A, cap, rfl, hc, hm, hr⟩
  · exact ⟨_, _, rfl, Nat.zero_le _⟩
  · exact ⟨_, _, rfl, by omega⟩
theorem PD.row {D : Nat → Prop} {h : Heap} {a : Option Addr} {n c : Nat} {ms : List (List UInt8)} {pv : List Value} (hx : PD D h (.slice a n c) ms pv) (t : Nat) (hlt : t < ms.length) :
    ∃ b o m v, a = some ⟨b, o, none⟩ ∧ ms[t]? = some m ∧ rd h ⟨b, o + t, none⟩ = some v ∧ RD D h v m := by
  obtain ⟨v, h1, h2⟩ := hx.part t ms[t] (List.getElem?_eq_getElem hlt)
  rcases hx.form with ⟨h3, h4⟩ | ⟨A, cap, h3, hc, hm, hr⟩
  · rw [h4] at hlt; simp at hlt
  · injection h3 with h3
    have hs := hr.spot (by intro e; subst e; simp at h1)
    rw [hs, rdA_plain] at hr
    exact ⟨A.block, A.off, _, v, by rw [← hs]; exact h3, List.getElem?_eq_getElem hlt, hr t v h1, h2⟩
def accP (s : List UInt8) (ms : List (List UInt8)) (t : Nat) : List UInt8 := Sha.pre s (ms.take t)
theorem accP_succ {s : List UInt8} {ms : List (List UInt8)} {t : Nat} {m : List UInt8} (h : ms[t]? = some m) : accP s ms (t + 1) = accP s ms t ++ Sha.eight m.length ++ m := by
  unfold accP Sha.pre Sha.encP
  rw [List.take_add_one, h]
  simp
theorem encP_length (ms : List (List UInt8)) : (Sha.encP ms).length = 8 * ms.length + ms.flatten.length := by
  induction ms with
  | nil => rfl
  | cons m ms ih =>
    rw [Sha.encP_cons]
    simp only [List.length_append, Sha.eight_length, ih, List.length_cons, List.flatten_cons]
    omega
theorem accP_le (s : List UInt8) (ms : List (List UInt8)) (t : Nat) : (accP s ms t).length ≤ 1 + s.length + 8 * ms.length + ms.flatten.length := by
  have h1 := upto_le ms t
  unfold upto at h1
  unfold accP Sha.pre
  simp only [List.length_cons, List.length_append, encP_length]
  have : (ms.take t).length ≤ ms.length := by rw [List.length_take]; omega
  omega
theorem preimage_no {s : List UInt8} {x : Value} (hs : s.length ≤ maxLen) (hT : Sha.isTag s = false) : FxP Tryz.prog 208 #[.string (bs s), x] (.tuple #[.slice none 0 0, .int .i64 22]) := by
  intro h
  refine fn_of 35 Tryz.func208 rfl (by kernel_rfl) rfl (by simp) ?_
  refine cw_seq (cw_region rfl ?_)
  refine cw_seq (cw_seq (cw_region rfl ?_))
  conv => whnf
  refine ⟨_, rfl, _, tagged_fn s hs h, ?_⟩
  rw [hT]
  rintro _ h0 ⟨rfl, e⟩
  subst h0
  conv => whnf
  refine cw_true rfl (cw_seq (cw_region rfl ?_))
  exact cw_ret ⟨rfl, rfl⟩
theorem preimage_fn {D : Nat → Prop} {h : Heap} {s : List UInt8} {x : Value} {ms : List (List UInt8)} {pv : List Value} (hx : PD D h x ms pv) (hD : ∀ b, D b → b < h.size) (hT : Sha.isTag s = true)
    (hms : ms.flatten.length + ms.length ≤ 1000000000000) :
    Fx Tryz.prog 208 #[.string (bs s), x] h fun u h' => ∃ v', u = .tuple #[v', .int .i64 0] ∧ OB h' v' (Sha.pre s ms) ∧ ExtH h h' ∧ ∀ b, ob v' b → h.size ≤ b := by
  refine fn_of 35 Tryz.func208 rfl (by kernel_rfl) rfl (by simp) ?_
  obtain ⟨hs1, hs2⟩ := Sha.isTag_len hT
  refine cw_seq (cw_region rfl ?_)
  refine cw_seq (cw_seq (cw_region rfl ?_))
  conv => whnf
  refine ⟨_, rfl, _, tagged_fn s (by simp only [maxLen]; omega) h, ?_⟩
  rw [hT]
  rintro _ h0 ⟨rfl, e⟩
  subst h0
  conv => whnf
  refine cw_false rfl (cw_skip ?_)
  refine cw_seq (cw_region rfl ?_)
  conv => whnf
  have ew : Value.int .u8 (IntKind.u8.wrap (s.length : Int)) = u8v (UInt8.ofNat s.length) := congrArg (Value.int .u8) (wrap8_nat s.length)
  refine ⟨_, rfl, #[u8v (UInt8.ofNat s.length)], 5, fun w => (congrArg (fun v => (Instr.buildSlice 170 1 #[(0, v)]).run Tryz.prog w) ew).trans (by kernel_rfl), ?_⟩
  intro h1 n1
  conv => whnf
  refine ⟨_, rfl, _, append_str (ty := 170) n1.blk hs1 hs2, ?_⟩
  rintro v2 h2 ⟨o2, x2, f2⟩
  have z1 := n1.size; have z2 := x2.size
  have x02 := n1.ext.trans x2
  replace o2 : OB h2 v2 (accP s ms 0) := by
    have : accP s ms 0 = UInt8.ofNat s.length :: s := by simp [accP, Sha.pre, Sha.encP]
    rw [this]; exact o2
  replace f2 : ∀ b, ob v2 b → h.size ≤ b := fun b hb => by have := f2 b hb; omega
  clear n1
  obtain ⟨a, c, hfx, hlen⟩ := hx.fix
  have hmax : maxLen < 9223372036854775808 := by decide
  subst hfx
  refine cw_seq (cw_seq (cw_region rfl ?_))
  conv => whnf
  refine cw_block ?_
  refine cw_loop (S := Nat × Value) (fun q => [(6, q.2), (18, .slice a ms.length c), (19, .int .i64 (ms.length : Int)), (20, .int .i64 (q.1 : Int))])
    (fun q h' => q.1 ≤ ms.length ∧ OB h' q.2 (accP s ms q.1) ∧ ExtH h h' ∧ ∀ b, ob q.2 b → h.size ≤ b) (fun q => ms.length - q.1) (0, v2) ⟨rfl, rfl, rfl, rfl, trivial⟩ ⟨Nat.zero_le _, o2, x02, f2⟩ ?_
  clear o2 x02 f2 x2 z1 z2
  rintro ⟨t, v⟩ h3 ⟨ht, o3, x3, f3⟩
  simp only [] at ht o3 f3
  have hacc := accP_le s ms t
  refine cw_seq (cw_region rfl ?_)
  by_cases hlt : t < ms.length
  · refine cw_seq (cw_yes rfl (by show (t : Int) < (ms.length : Int); omega) (cw_skip ?_))
    have hx3 := hx.keep (x3.chg (S := fun _ => False)) (fun _ _ e => e)
    obtain ⟨b, o, m, u, rfl, hm, hr, hu⟩ := hx3.row t hlt
    have hmm := accP_succ (s := s) hm
    have hac1 := accP_le s ms (t + 1)
    have hml : m.length ≤ ms.flatten.length := by
      have h1 := upto_succ ms t m hm
      have h2 := upto_le ms (t + 1)
      rw [h1, List.length_append] at h2
      omega
    refine cw_seq (cw_block (cw_seq (cw_region rfl ?_)))
    conv => whnf
    refine ⟨⟨by omega, by show (t : Int) < ((ms.length : Nat) : Int); omega⟩, ?_⟩
    conv => whnf
    refine ⟨_, hr, ?_⟩
    obtain ⟨ua, uc, hue⟩ := hu.1.len
    obtain ⟨va, vc, hve⟩ := o3.r.len
    subst hue hve
    conv => whnf
    refine cw_seq (cw_region rfl ?_)
    conv => whnf
    rw [u64_in (m.length : Int) m.length rfl (by omega)]
    refine ⟨_, rfl, _, eight_fn m.length h3, ?_⟩
    rintro v4 h4 ⟨o4, x4, f4⟩
    have z3 := x3.size; have z4 := x4.size
    obtain ⟨a4, c4, e4⟩ := o4.r.len
    have e8 := Sha.eight_length m.length
    subst e4
    conv => whnf
    refine ⟨_, rfl, _, append_bytes (ty := 170) (OwnS.more o3 x4) o4.r (by omega), ?_⟩
    rintro v5 h5 ⟨o5, c5, f5⟩
    have z5 := c5.size
    obtain ⟨a5, k5, e5⟩ := o5.r.len
    subst e5
    have hu5 : RD D h5 (.slice ua m.length uc) m := (hu.keep (x4.chg (S := fun _ => False)) (fun _ _ e => e)).keep c5 (fun b hb e => by have := hD b hb; have := f3 b e; omega)
    refine cw_region rfl ?_
    conv => whnf
    have ll : (accP s ms t ++ Sha.eight m.length).length = (accP s ms t).length + 8 := by rw [List.length_append, e8]
    have ll2 : (accP s ms (t + 1)).length = (accP s ms t).length + 8 + m.length := by rw [hmm, List.length_append, ll]
    refine ⟨_, rfl, _, append_bytes (ty := 170) o5 hu5.1 (by omega), ?_⟩
    rintro v6 h6 ⟨o6, c6, f6⟩
    have z6 := c6.size
    rw [← hmm] at o6
    refine cw_region rfl ?_
    have g5 : ∀ b, ob (.slice a5 (accP s ms t ++ Sha.eight m.length).length k5) b → h.size ≤ b := fun b hb => (f5 b hb).elim (fun e => f3 b e) (fun e => by omega)
    exact ⟨(t + 1, v6), ⟨rfl, rfl, rfl, slot_i64 _ _ (by simp only []; omega) (by simp only []; omega), trivial⟩, ⟨hlt, o6, ⟨by omega, fun b hb => by
        rw [c6.block b (by omega) (fun e => by have := g5 b e; omega), c5.block b (by omega) (fun e => by have := f3 b e; omega), x4.block b (by omega), x3.block b hb]⟩,
      fun b hb => (f6 b hb).elim (fun e => g5 b e) (fun e => by omega)⟩, by show ms.length - (t + 1) < ms.length - t; omega⟩
  · refine cw_seq (cw_no rfl (by show ¬ (t : Int) < (ms.length : Int); omega) (cw_exit ?_))
    have tn : t = ms.length := by omega
    subst tn
    refine cw_seq (cw_region rfl ?_)
    refine cw_ret ⟨_, rfl, ?_, x3, f3⟩
    have : accP s ms ms.length = Sha.pre s ms := by unfold accP; rw [List.take_length]
    rw [← this]
    exact o3
end Go.Proofs.YtdielfpgekenkaaGreatDoor
namespace Go.Proofs.YtdielfpgekenkaaGreatDoor.Sx
open Go Vm
noncomputable section
set_option linter.unusedSimpArgs false
set_option linter.unusedVariables false
def eqSt (s t : St) : Bool := decide (s.n = t.n) && decide (s.low = t.low) && eqT eqO s.hp t.hp
theorem eqSt_ok {s t : St} (h : eqSt s t = true) : s = t := by
  obtain ⟨n, low, hp⟩ := s
  obtain ⟨n', low', hp'⟩ := t
  simp only [eqSt, Bool.and_eq_true, decide_eq_true_eq] at h
  obtain ⟨⟨rfl, rfl⟩, h3⟩ := h
  rw [eqT_ok eqO_ok _ _ h3]
def isDead : SO → Bool
  | .dead => true
  | _ => false
/-- the second is the first, of which some is not looked at any more -/
def weakS (t u : St) : Bool := decide (t.n = u.n) && decide (t.low = u.low) && allT (fun i o => match t.hp.get i with
    | some o' => isDead o || eqO o' o
    | none => false) u.hp 1 0 && allT (fun i _ => (u.hp.get i).isSome) t.hp 1 0
theorem weak_rep {ng : Nat} {t u : St} {σ : Env} {h : Heap} (hw : weakS t u = true) (H : Rep ng t σ h) : Rep ng u σ h := by
  simp only [weakS, Bool.and_eq_true, decide_eq_true_eq] at hw
  obtain ⟨⟨⟨e1, e2⟩, e3⟩, e4⟩ := hw
  have ho : ∀ i o, u.hp.get i = some o → ∃ o', t.hp.get i = some o' ∧ (o = .dead ∨ o' = o) := fun i o hi => by
    have := allT_ok _ _ _ e3 i o hi
    rw [Nat.one_mul, Nat.add_zero] at this
    split at this
    · rename_i o' ho'
      refine ⟨o', ho', ?_⟩
      rw [Bool.or_eq_true] at this
      rcases this with h1 | h1
      · left; cases o <;> first | rfl | cases h1
      · right; exact eqO_ok _ _ h1
    · cases this
  refine ⟨H.glob, fun i q hq hi => ?_, e1 ▸ H.ngn, fun i q hq => e1 ▸ H.dom i q hq, fun i o hi => ?_, fun i j o o' q r hi hj l1 l2 hq hr hqr => ?_⟩
  · obtain ⟨o, ho'⟩ := H.has i q hq hi
    have := allT_ok _ _ _ e4 i o ho'
    rw [Nat.one_mul, Nat.add_zero] at this
    exact Option.isSome_iff_exists.1 this
  · obtain ⟨o', h1, h2⟩ := ho i o hi
    obtain ⟨q, hq, hr⟩ := H.obj i o' h1
    rcases h2 with rfl | rfl
    · exact ⟨q, hq, trivial⟩
    · exact ⟨q, hq, hr⟩
  · obtain ⟨p, h1, h2⟩ := ho i o hi
    obtain ⟨p', h3, h4⟩ := ho j o' hj
    rcases h2 with rfl | rfl
    · cases l1
    rcases h4 with rfl | rfl
    · cases l2
    exact H.inj i j _ _ q r h1 h3 l1 l2 hq hr hqr
theorem weak_goes {ng : Nat} {st t u : St} {σ σ' : Env} {h h' : Heap} (hw : weakS t u = true) (G : Goes ng st σ h t σ' h') : Goes ng st σ h u σ' h' := by
  have e := hw
  simp only [weakS, Bool.and_eq_true, decide_eq_true_eq] at e
  exact ⟨weak_rep hw G.rep, e.1.1.2 ▸ G.steps, e.1.1.2 ▸ G.low, e.1.1.1 ▸ G.n⟩
def forceOS {α : Type} (v : Option SO) (k : Option SO → α) : α :=
  match v with
  | none => k none
  | some (.row l t g w) => forceVs l fun l => forceN t fun t => match w with
    | true => k (some (.row l t g true))
    | false => k (some (.row l t g false))
  | some o => k (some o)
theorem forceOS_eq {α : Type} (v : Option SO) (k : Option SO → α) : forceOS v k = k v := by
  unfold forceOS
  split
  · rfl
  · rw [forceVs_eq, forceN_eq]; split <;> rfl
  · rfl
def forceTr {α : Type} : Tr SO → (Tr SO → α) → α
  | .nil, k => k .nil
  | .node l v r, k => forceTr l fun l => forceOS v fun v => forceTr r fun r => k (.node l v r)
theorem forceTr_eq {α : Type} : ∀ (t : Tr SO) (k : Tr SO → α), forceTr t k = k t
  | .nil, _ => rfl
  | .node l v r, k => by simp only [forceTr, forceTr_eq l, forceOS_eq, forceTr_eq r]
def forceSt {α : Type} (s : St) (k : St → α) : α :=
  match s with
  | ⟨n, low, hp⟩ => forceN n fun n => forceN low fun low => forceTr hp fun hp => k ⟨n, low, hp⟩
theorem forceSt_eq {α : Type} (s : St) (k : St → α) : forceSt s k = k s := by
  obtain ⟨n, low, hp⟩ := s
  simp only [forceSt, forceN_eq, forceTr_eq]
structure Memo where
  f : Nat
  a : List SV
  s : St
  r : SV
  t : St
def memoH : List Memo → Nat → List SV → St → Option (SV × St)
  | [], _, _, _ => none
  | m :: r, f, a, s => if decide (m.f = f) && eqVs a m.a && eqSt s m.s then forceSt m.t fun t => forceV m.r fun v => some (v, t) else memoH r f a s
def Cx.memo (C : Cx) (ms : List Memo) : Cx := { C with hook := fun f => if ms.any (fun m => decide (m.f = f)) then some (memoH ms f) else C.hook f }
def MemoOk (C : Cx) (m : Memo) : Prop := ∀ (σ : Env) (h : Heap) (vs : List Value), Rep C.ng m.s σ h → denL σ m.a = some vs → Fx C.P m.f vs.toArray h fun v h' => ∃ σ', den σ' m.r = some v ∧ Goes C.ng m.s σ h m.t σ' h'
section
variable {C : Cx} {ms : List Memo}
theorem memo_cx (hC : CxOk C) : CxOk (C.memo ms) := ⟨hC.ty, hC.room, hC.flds⟩
theorem okCode_memo {f n : Nat} (c : Code) : okCode (C.memo ms) f n c = okCode C f n c := by
  induction c with
  | seq a b iha ihb => simp only [okCode, iha, ihb]
  | cond _ a b iha ihb => simp only [okCode, iha, ihb]
  | block _ c ih => simp only [okCode, ih]
  | loop c ih => simp only [okCode, ih]
  | _ => rfl
theorem memo_look : ∀ (ms : List Memo) (f : Nat) (a : List SV) (s : St) (r : SV) (t : St), memoH ms f a s = some (r, t) → ∃ m ∈ ms, m.f = f ∧ m.a = a ∧ m.s = s ∧ m.r = r ∧ m.t = t
  | [], _, _, _, _, _, h => by cases h
  | m :: l, f, a, s, r, t, h => by
    simp only [memoH] at h
    split at h
    · rename_i hc
      simp only [Bool.and_eq_true, decide_eq_true_eq] at hc
      obtain ⟨⟨h1, h2⟩, h3⟩ := hc
      rw [forceSt_eq, forceV_eq] at h
      cases h
      exact ⟨m, List.mem_cons_self, h1, (eqVs_ok _ _ h2).symm, (eqSt_ok h3).symm, rfl, rfl⟩
    · obtain ⟨m', hm, e⟩ := memo_look l f a s r t h
      exact ⟨m', List.mem_cons_of_mem _ hm, e⟩
theorem memo_fn (hN : FnOk C) (hm : ∀ m ∈ ms, MemoOk C m) : FnOk (C.memo ms) where
  mixed := hN.mixed
  fn := fun f fn h => by
    obtain ⟨h1, h2⟩ := hN.fn f fn h
    refine ⟨h1, ?_⟩
    rw [← h2]
    unfold okFn
    cases fn.body with
    | none => rfl
    | some c => simp only [okCode_memo]
  hook := fun f k hk args st s st' e σ h vs H hv => by
    have hk' : (if ms.any (fun m => decide (m.f = f)) then some (memoH ms f) else C.hook f) = some k := hk
    split at hk'
    · cases hk'
      obtain ⟨m, hmem, rfl, rfl, rfl, rfl, rfl⟩ := memo_look ms f args st s st' e
      exact hm m hmem σ h vs H hv
    · exact hN.hook f k hk' args st s st' e σ h vs H hv
/-- a run that was done -/
def saysM (C : Cx) (m : Memo) : Bool :=
  forceSt m.s fun s => forceVs m.a fun a => match C.run 400 m.f a s with
    | some (r, t) => eqV r m.r && weakS t m.t
    | none => false
theorem memo_of {D : Cx} (hD : CxOk D) (hN : FnOk D) (hP : D.P = C.P) (hg : D.ng = C.ng) {m : Memo} (h : saysM D m = true) : MemoOk C m := by
  intro σ hp vs H hv
  unfold saysM at h
  rw [forceSt_eq, forceVs_eq] at h
  split at h
  · rename_i r t e
    rw [Bool.and_eq_true] at h
    rw [← hP, ← hg]
    rw [← hg] at H
    refine (run_ok hD hN 400 _ _ _ _ _ e σ hp vs H hv).mono ?_
    rintro v h' ⟨σ', h1, h2⟩
    refine ⟨σ', ?_, weak_goes h.2 h2⟩
    rw [← eqV_ok _ _ h.1]
    exact h1
  · cases h
end
/-- rows of bytes, shortly -/
def B (l : List Nat) : List SV := l.map fun n => .i .u8 (.ofNat n)
/-- turns of a heap: an object at a number, or numbers that are not looked at any more -/
inductive Up where
  | o (i : Nat) (x : SO)
  | d (i k : Nat)
def deadR (i : Nat) : Nat → Tr SO → Tr SO
  | 0, t => t
  | k + 1, t => match t.setK fuelT i .dead some with
    | some t => deadR (i + 1) k t
    | none => t
def upL : List Up → Tr SO → Tr SO
  | [], t => t
  | .o i x :: r, t => match t.setK fuelT i x some with
    | some t => upL r t
    | none => t
  | .d i k :: r, t => upL r (deadR i k t)
end
end Go.Proofs.YtdielfpgekenkaaGreatDoor.Sx
