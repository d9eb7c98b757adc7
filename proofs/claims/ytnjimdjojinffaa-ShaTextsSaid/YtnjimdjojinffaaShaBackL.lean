/-
  Plain facts: a digest's text is read back, and a text that is read is the digest's.
-/
import Derived.Test.YtnjimdjojinffaaShaHex
namespace Go.Proofs.Ytnjimdjojinffaa.Sha
theorem nib_hexc (n : Nat) (h : n < 16) : nib (hexc n) = n := by
  have : ∀ k : Fin 16, nib (hexc k.val) = k.val := by decide
  exact this ⟨n, h⟩
theorem hexc_nib (c : UInt8) (h : nib c ≤ 15) : hexc (nib c) = c := by
  have hc : c.toNat < 256 := c.toNat_lt
  have key : ∀ k : Fin 256, nib (UInt8.ofNat k.val) ≤ 15 → hexc (nib (UInt8.ofNat k.val)) = UInt8.ofNat k.val := by decide +kernel
  have := key ⟨c.toNat, hc⟩
  rw [UInt8.ofNat_toNat] at this
  exact this h
theorem hex_even : ∀ (l : List UInt8) (i : Nat), i < l.length → (hex l).getD (2 * i) 0 = hexc ((l.getD i 0).toNat / 16)
  | [], i, h => by simp at h
  | x :: l, 0, _ => rfl
  | x :: l, i + 1, h => by
    rw [show hex (x :: l) = hexc (x.toNat / 16) :: hexc (x.toNat % 16) :: hex l from rfl, show 2 * (i + 1) = 2 * i + 1 + 1 by omega, List.getD_cons_succ, List.getD_cons_succ, List.getD_cons_succ]
    exact hex_even l i (by simpa using h)
theorem hex_odd : ∀ (l : List UInt8) (i : Nat), i < l.length → (hex l).getD (2 * i + 1) 0 = hexc ((l.getD i 0).toNat % 16)
  | [], i, h => by simp at h
  | x :: l, 0, _ => rfl
  | x :: l, i + 1, h => by
    rw [show hex (x :: l) = hexc (x.toNat / 16) :: hexc (x.toNat % 16) :: hex l from rfl, show 2 * (i + 1) + 1 = 2 * i + 1 + 1 + 1 by omega, List.getD_cons_succ, List.getD_cons_succ, List.getD_cons_succ]
    exact hex_odd l i (by simpa using h)
theorem unb_hex (l : List UInt8) : ∀ n, n ≤ l.length → unb (hex l) n = l.take n
  | 0, _ => rfl
  | n + 1, h => by
    have hb : (l.getD n 0).toNat < 256 := (l.getD n 0).toNat_lt
    unfold unb
    rw [unb_hex l n (by omega), hex_even l n (by omega), hex_odd l n (by omega), nib_hexc _ (by omega), nib_hexc _ (by omega), List.take_add_one, List.getElem?_eq_getElem (show n < l.length by omega)]
    rw [show (l.getD n 0).toNat / 16 * 16 + (l.getD n 0).toNat % 16 = (l.getD n 0).toNat by omega, UInt8.ofNat_toNat, List.getD_eq_getElem?_getD, List.getElem?_eq_getElem (show n < l.length by omega)]
    rfl
theorem ok_hex (l : List UInt8) : okN (hex l) l.length := fun i hi => by
  have hb : (l.getD i 0).toNat < 256 := (l.getD i 0).toNat_lt
  rw [hex_even l i hi, hex_odd l i hi, nib_hexc _ (by omega), nib_hexc _ (by omega)]
  omega
theorem of_nat (x : Nat) (h : x < 256) : (UInt8.ofNat x).toNat = x := by simp; omega
theorem hex_unb (s : List UInt8) : ∀ n, 2 * n ≤ s.length → okN s n → hex (unb s n) = s.take (2 * n)
  | 0, _, _ => rfl
  | n + 1, h, hk => by
    have ih := hex_unb s n (by omega) (fun i hi => hk i (by omega))
    obtain ⟨h1, h2⟩ := hk n (by omega)
    unfold unb
    have e : hex (unb s n ++ [UInt8.ofNat (nib (s.getD (2 * n) 0) * 16 + nib (s.getD (2 * n + 1) 0))]) = hex (unb s n) ++ [s.getD (2 * n) 0, s.getD (2 * n + 1) 0] := by
      unfold hex
      rw [List.flatMap_append]
      congr 1
      show [hexc ((UInt8.ofNat _).toNat / 16), hexc ((UInt8.ofNat _).toNat % 16)] = _
      rw [show (UInt8.ofNat (nib (s.getD (2 * n) 0) * 16 + nib (s.getD (2 * n + 1) 0))).toNat = nib (s.getD (2 * n) 0) * 16 + nib (s.getD (2 * n + 1) 0) from of_nat _ (by omega)]
      rw [show (nib (s.getD (2 * n) 0) * 16 + nib (s.getD (2 * n + 1) 0)) / 16 = nib (s.getD (2 * n) 0) by omega, show (nib (s.getD (2 * n) 0) * 16 + nib (s.getD (2 * n + 1) 0)) % 16 = nib (s.getD (2 * n + 1) 0) by omega, hexc_nib _ h1, hexc_nib _ h2]
    rw [e, ih, show 2 * (n + 1) = 2 * n + 1 + 1 by omega]
    have t1 : s.take (2 * n + 1) = s.take (2 * n) ++ [s.getD (2 * n) 0] := by
      rw [List.take_add_one, List.getElem?_eq_getElem (show 2 * n < s.length by omega), List.getD_eq_getElem?_getD, List.getElem?_eq_getElem (show 2 * n < s.length by omega)]; rfl
    have t2 : s.take (2 * n + 1 + 1) = s.take (2 * n + 1) ++ [s.getD (2 * n + 1) 0] := by
      rw [List.take_add_one, List.getElem?_eq_getElem (show 2 * n + 1 < s.length by omega), List.getD_eq_getElem?_getD, List.getElem?_eq_getElem (show 2 * n + 1 < s.length by omega)]; rfl
    rw [t2, t1, List.append_assoc]
    rfl
end Go.Proofs.Ytnjimdjojinffaa.Sha
