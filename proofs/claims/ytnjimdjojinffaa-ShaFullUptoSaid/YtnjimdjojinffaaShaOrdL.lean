/-
  Plain facts: the order of bytes is an order, and that of their texts.
-/
import Derived.Test.YtnjimdjojinffaaShaCmp
namespace Go.Proofs.Ytnjimdjojinffaa.Sha
open Go
theorem lt_nat (x y : UInt8) : x < y ↔ x.toNat < y.toNat := Iff.rfl
theorem eq_nat (x y : UInt8) : x = y ↔ x.toNat = y.toNat := ⟨fun h => by rw [h], fun h => UInt8.toNat_inj.1 h⟩
theorem cmp_range : ∀ l m : List UInt8, cmp l m = -1 ∨ cmp l m = 0 ∨ cmp l m = 1
  | [], [] => .inr (.inl rfl)
  | [], _ :: _ => .inl rfl
  | _ :: _, [] => .inr (.inr rfl)
  | x :: l, y :: m => by
    have := cmp_range l m
    unfold cmp
    split
    · exact .inl rfl
    · split
      · exact .inr (.inr rfl)
      · exact this
theorem cmp_swap : ∀ l m : List UInt8, cmp m l = - cmp l m
  | [], [] => rfl
  | [], _ :: _ => rfl
  | _ :: _, [] => rfl
  | x :: l, y :: m => by
    have := cmp_swap l m
    unfold cmp
    simp only [lt_nat]
    by_cases h1 : x.toNat < y.toNat
    · rw [if_neg (by omega), if_pos h1, if_pos h1]; rfl
    · by_cases h2 : y.toNat < x.toNat
      · rw [if_pos h2, if_neg h1, if_pos h2]
      · rw [if_neg h2, if_neg h1, if_neg h1, if_neg h2]; exact this
theorem cmp_zero : ∀ l m : List UInt8, cmp l m = 0 ↔ l = m
  | [], [] => by simp [cmp]
  | [], _ :: _ => by simp [cmp]
  | _ :: _, [] => by simp [cmp]
  | x :: l, y :: m => by
    have ih := cmp_zero l m
    unfold cmp
    simp only [lt_nat, List.cons.injEq, eq_nat]
    by_cases h1 : x.toNat < y.toNat
    · rw [if_pos h1]; constructor
      · intro h; omega
      · intro h; omega
    · by_cases h2 : y.toNat < x.toNat
      · rw [if_neg h1, if_pos h2]; constructor
        · intro h; omega
        · intro h; omega
      · rw [if_neg h1, if_neg h2, ih]
        exact ⟨fun h => ⟨by omega, h⟩, fun h => h.2⟩
theorem cmp_cons (x y : UInt8) (l m : List UInt8) : cmp (x :: l) (y :: m) = if x.toNat < y.toNat then -1 else if y.toNat < x.toNat then 1 else cmp l m := rfl
theorem beqD (a b : UInt8) : (a == b) = decide (a = b) := by rw [Bool.eq_iff_iff]; simp
theorem cmp_trans : ∀ a b c : List UInt8, cmp a b ≤ 0 → cmp b c ≤ 0 → cmp a c ≤ 0
  | [], _, [] => fun _ _ => by simp [cmp]
  | [], _, _ :: _ => fun _ _ => by simp [cmp]
  | _ :: _, [], _ => fun h _ => by simp [cmp] at h
  | _ :: _, _ :: _, [] => fun _ h => by simp [cmp] at h
  | x :: a, y :: b, z :: c => fun h1 h2 => by
    have ih := cmp_trans a b c
    rw [cmp_cons] at h1 h2 ⊢
    by_cases h3 : x.toNat < z.toNat
    · rw [if_pos h3]; omega
    · rw [if_neg h3]
      by_cases p1 : x.toNat < y.toNat
      · by_cases q1 : y.toNat < z.toNat
        · omega
        · rw [if_neg q1] at h2
          by_cases q2 : z.toNat < y.toNat
          · rw [if_pos q2] at h2; omega
          · omega
      · rw [if_neg p1] at h1
        by_cases p2 : y.toNat < x.toNat
        · rw [if_pos p2] at h1; omega
        · rw [if_neg p2] at h1
          by_cases q1 : y.toNat < z.toNat
          · omega
          · rw [if_neg q1] at h2
            by_cases q2 : z.toNat < y.toNat
            · rw [if_pos q2] at h2; omega
            · rw [if_neg q2] at h2
              rw [if_neg (by omega)]
              exact ih h1 h2
theorem hexc_lt (i j : Nat) (hi : i < 16) (hj : j < 16) : (hexc i < hexc j) ↔ i < j := by
  have : ∀ a b : Fin 16, (hexc a.val < hexc b.val) ↔ a.val < b.val := by decide
  exact this ⟨i, hi⟩ ⟨j, hj⟩
theorem hexc_eq (i j : Nat) (hi : i < 16) (hj : j < 16) : (hexc i = hexc j) ↔ i = j := by
  have : ∀ a b : Fin 16, (hexc a.val = hexc b.val) ↔ a.val = b.val := by decide
  exact this ⟨i, hi⟩ ⟨j, hj⟩
theorem hex_cons (x : UInt8) (l : List UInt8) : hex (x :: l) = hexc (x.toNat / 16) :: hexc (x.toNat % 16) :: hex l := rfl
theorem hex_less : ∀ l m : List UInt8, Op.bytesLess (hex l) (hex m) = decide (cmp l m < 0)
  | [], [] => by simp [hex, Op.bytesLess, cmp]
  | [], y :: m => by rw [hex_cons]; simp [hex, Op.bytesLess, cmp]
  | x :: l, [] => by simp [hex, Op.bytesLess, cmp]
  | x :: l, y :: m => by
    have ih := hex_less l m
    have hx : x.toNat < 256 := x.toNat_lt
    have hy : y.toNat < 256 := y.toNat_lt
    rw [hex_cons, hex_cons]
    unfold Op.bytesLess
    unfold Op.bytesLess
    rw [ih]
    rw [cmp_cons]
    have l1 := hexc_lt (x.toNat / 16) (y.toNat / 16) (by omega) (by omega)
    have l2 := hexc_lt (x.toNat % 16) (y.toNat % 16) (by omega) (by omega)
    have e1 := hexc_eq (x.toNat / 16) (y.toNat / 16) (by omega) (by omega)
    have e2 := hexc_eq (x.toNat % 16) (y.toNat % 16) (by omega) (by omega)
    simp only [beqD, l1, l2, e1, e2]
    by_cases h1 : x.toNat < y.toNat
    · rw [if_pos h1]
      by_cases h2 : x.toNat / 16 < y.toNat / 16
      · simp [h2]
      · have h3 : x.toNat / 16 = y.toNat / 16 := by omega
        have h4 : x.toNat % 16 < y.toNat % 16 := by omega
        simp [h3, h4]
    · rw [if_neg h1]
      by_cases h2 : y.toNat < x.toNat
      · rw [if_pos h2]
        have h3 : ¬ x.toNat / 16 < y.toNat / 16 := by omega
        by_cases h4 : x.toNat / 16 = y.toNat / 16
        · have h5 : ¬ x.toNat % 16 < y.toNat % 16 := by omega
          have h6 : ¬ x.toNat % 16 = y.toNat % 16 := by omega
          simp [h4, h5, h6]
        · simp [h3, h4]
      · rw [if_neg h2]
        have h3 : x.toNat = y.toNat := by omega
        simp [h3]
theorem hex_inj : ∀ l m : List UInt8, hex l = hex m ↔ l = m
  | [], [] => by simp
  | [], y :: m => by rw [hex_cons]; simp [hex]
  | x :: l, [] => by rw [hex_cons]; simp [hex]
  | x :: l, y :: m => by
    have ih := hex_inj l m
    have hx : x.toNat < 256 := x.toNat_lt
    have hy : y.toNat < 256 := y.toNat_lt
    rw [hex_cons, hex_cons]
    simp only [List.cons.injEq, hexc_eq (x.toNat / 16) (y.toNat / 16) (by omega) (by omega), hexc_eq (x.toNat % 16) (y.toNat % 16) (by omega) (by omega), ih, eq_nat]
    constructor
    · rintro ⟨a, b, c⟩; exact ⟨by omega, c⟩
    · rintro ⟨a, c⟩; exact ⟨by omega, by omega, c⟩
end Go.Proofs.Ytnjimdjojinffaa.Sha
namespace Go.Proofs.Ytnjimdjojinffaa
open Go Vm
set_option maxRecDepth 100000
theorem bcompare_fn {h : Heap} {u v : Value} {l m : List UInt8} (hu : RB h u l) (hv : RB h v m) : Fx Try.prog 44 #[u, v] h fun r h' => r = .int .i64 (Sha.cmp l m) ∧ h' = h := by
  refine fn_of 8 Try.func44 rfl (by kernel_rfl) rfl (by simp) ?_
  refine cw_seq (cw_region rfl ?_)
  refine cw_seq (cw_region rfl ?_)
  conv => whnf
  refine ⟨_, rfl, _, bytealg_fn hu hv, ?_⟩
  rintro _ h1 ⟨rfl, e⟩
  subst h1
  exact cw_ret ⟨rfl, rfl⟩
theorem compare_fn (l m : List UInt8) (hl : l.length = 32) (hm : m.length = 32) (h : Heap) : Fx Try.prog 26 #[.agg (l.map u8v).toArray, .agg (m.map u8v).toArray] h fun r h' => r = .int .i64 (Sha.cmp l m) ∧ ExtH h h' := by
  refine fn_of 8 Try.func26 rfl (by kernel_rfl) rfl (by simp) ?_
  refine cw_seq (cw_region rfl ?_)
  conv => whnf
  intro h1 n1
  conv => whnf
  intro h2 n2
  refine cw_seq ?_
  refine cw_drawn (by kernel_rfl) 3 (fun _ => false) (List.range 3) (by kernel_rfl) rfl ?_
  conv => whnf
  refine ⟨⟨by decide, by decide, by decide⟩, ⟨h.size, 0, none⟩, by rw [if_neg (by decide)]; exact add_none _ _ _, ?_⟩
  conv => whnf
  refine ⟨⟨by decide, by decide, by decide⟩, ⟨h1.size, 0, none⟩, by rw [if_neg (by decide)]; exact add_none _ _ _, ?_⟩
  conv => whnf
  have r1 : RB h2 (.slice (some ⟨h.size, 0, none⟩) 32 32) l := (RD.at (D := fun _ => True) (n2.ext.rdN n1.blk.all) hl (by decide) trivial).1
  have r2 : RB h2 (.slice (some ⟨h1.size, 0, none⟩) 32 32) m := (RD.at (D := fun _ => True) n2.blk.all hm (by decide) trivial).1
  refine ⟨_, rfl, _, fun h3 x3 => (bcompare_fn (r1.more x3) (r2.more x3)).mono (fun _ _ e => ⟨e.1, e.2 ▸ ExtH.refl _⟩), ?_⟩
  conv => whnf
  intro h3 x3
  exact cw_ret ⟨rfl, (n1.ext.trans n2.ext).trans x3⟩
theorem compare_q (l m : List UInt8) (hl : l.length = 32) (hm : m.length = 32) (h : Heap) : FxQ Try.prog 26 #[.agg (l.map u8v).toArray, .agg (m.map u8v).toArray] h (.int .i64 (Sha.cmp l m)) :=
  fun h1 _ => compare_fn l m hl hm h1
theorem hex_q (l : List UInt8) (hl : l.length = 32) (h : Heap) : FxQ Try.prog 27 #[.agg (l.map u8v).toArray] h (.string (bs (Sha.hex l))) := fun h1 _ => hex_fn l hl h1
end Go.Proofs.Ytnjimdjojinffaa
