/-
  Tags: package sha's tagged and the document's Tag.
-/
import Derived.Test.YtgecapllodgdeaaGreatDoorShaStr
import Derived.Test.YtgecapllodgdeaaGreatDoorVmHead
namespace Go.Proofs.YtgecapllodgdeaaGreatDoor.Sha
def okc (c : UInt8) : Bool := c.toNat == 46 || (decide (97 ≤ c.toNat) && decide (c.toNat ≤ 122))
def isTag (s : List UInt8) : Bool := s.all okc && (decide (1 ≤ s.length) && decide (s.length ≤ 32))
theorem isTag_no {s : List UInt8} {i : Nat} (hi : i < s.length) (h : okc (s.getD i 0) = false) : isTag s = false := by
  have : s.all okc = false := by
    rw [List.all_eq_false]
    refine ⟨s.getD i 0, ?_, by rw [h]; exact Bool.false_ne_true⟩
    rw [List.getD_eq_getElem?_getD, List.getElem?_eq_getElem hi]
    exact List.getElem_mem hi
  unfold isTag
  rw [this]
  rfl
theorem isTag_yes {s : List UInt8} (h : ∀ i, i < s.length → okc (s.getD i 0) = true) : isTag s = (decide (1 ≤ s.length) && decide (s.length ≤ 32)) := by
  have : s.all okc = true := by
    rw [List.all_eq_true]
    intro x hx
    obtain ⟨i, hi, rfl⟩ := List.getElem_of_mem hx
    have := h i hi
    rwa [List.getD_eq_getElem?_getD, List.getElem?_eq_getElem hi] at this
  unfold isTag
  rw [this, Bool.true_and]
end Go.Proofs.YtgecapllodgdeaaGreatDoor.Sha
namespace Go.Proofs.YtgecapllodgdeaaGreatDoor
open Go Vm
set_option maxRecDepth 100000
theorem u8_ne_nat (c : UInt8) (n : Nat) : ((c.toNat : Int) != (n : Int)) = !decide (c.toNat = n) := by
  by_cases h : c.toNat = n
  · rw [h]; simp
  · have : (c.toNat : Int) ≠ (n : Int) := by omega
    simp [h, this]
theorem tagged_fn (s : List UInt8) (hs : s.length ≤ maxLen) : FxP Tryz.prog 64 #[.string (bs s)] (.bool (Sha.isTag s)) := by
  intro h
  refine fn_of 34 Tryz.func64 rfl (by kernel_rfl) rfl (by simp) ?_
  have hmax : maxLen < 9223372036854775808 := by decide
  refine cw_seq (cw_region rfl ?_)
  refine cw_seq (cw_seq (cw_region rfl ?_))
  conv => whnf
  refine cw_block ?_
  refine cw_loop (S := Nat) (fun t => [(0, .string (bs s)), (5, .int .i64 (s.length : Int)), (6, .int .i64 (t : Int))])
    (fun t h' => t ≤ s.length ∧ (∀ i, i < t → Sha.okc (s.getD i 0) = true) ∧ h' = h) (fun t => s.length - t) 0 ⟨rfl, rfl, rfl, trivial⟩ ⟨by omega, fun i hi => by omega, rfl⟩ ?_
  rintro t h0 ⟨ht, hok, e⟩
  subst h0
  refine cw_seq (cw_region rfl ?_)
  by_cases hlt : t < s.length
  · refine cw_seq (cw_yes rfl (by omega) (cw_skip ?_))
    refine cw_seq (cw_block (cw_seq (cw_region rfl ?_)))
    conv => whnf
    have hc := u8_lt (s.getD t 0)
    have hg : (bs s)[((t : Int)).toNat]? = some (s.getD t 0) := by
      rw [show ((t : Int)).toNat = t by omega]
      exact bs_get s t hlt
    generalize hcc : s.getD t 0 = c at *
    have next : Sha.okc c = true → ∀ i, i < t + 1 → Sha.okc (s.getD i 0) = true := fun h1 i hi => by
      by_cases hi' : i < t
      · exact hok i hi'
      · have : i = t := by omega
        rw [this, hcc]; exact h1
    refine cw_seq (cw_region rfl ?_)
    conv => whnf
    refine ⟨c, ⟨by omega, hg⟩, ?_⟩
    by_cases h46 : c.toNat = 46
    · refine ops_q (v := .bool false) rfl rfl (fun k hk => ?_) ?_
      · show k (.bool ((c.toNat : Int) != ((46 : Nat) : Int)))
        rw [u8_ne_nat, decide_eq_true h46]; exact hk
      conv => whnf
      refine cw_false rfl (cw_skip ?_)
      refine cw_region rfl ?_
      exact ⟨t + 1, ⟨rfl, rfl, slot_i64 _ _ (by omega) (by omega), trivial⟩, ⟨by omega, next (by simp [Sha.okc, h46]), rfl⟩, by omega⟩
    · refine ops_q (v := .bool true) rfl rfl (fun k hk => ?_) ?_
      · show k (.bool ((c.toNat : Int) != ((46 : Nat) : Int)))
        rw [u8_ne_nat, decide_eq_false h46]; exact hk
      conv => whnf
      refine ⟨c, ⟨by omega, hg⟩, ?_⟩
      by_cases h97 : c.toNat < 97
      · refine ops_g (v := .bool true) (b := true) rfl rfl rfl rfl (fun k hk => say true (decide_eq_true (by omega)) hk) ?_
        conv => whnf
        refine cw_true rfl (cw_seq (cw_region rfl ?_))
        have e : Sha.isTag s = false := Sha.isTag_no hlt (by rw [hcc]; simp [Sha.okc, h46]; omega)
        rw [e]
        exact cw_ret ⟨rfl, rfl⟩
      · refine ops_g (v := .bool false) (b := true) rfl rfl rfl rfl (fun k hk => say false (decide_eq_false (by omega)) hk) ?_
        conv => whnf
        refine ⟨c, ⟨by omega, hg⟩, ?_⟩
        conv => whnf
        by_cases h122 : 122 < c.toNat
        · refine cw_yes rfl (by omega) (cw_seq (cw_region rfl ?_))
          have e : Sha.isTag s = false := Sha.isTag_no hlt (by rw [hcc]; simp [Sha.okc, h46]; omega)
          rw [e]
          exact cw_ret ⟨rfl, rfl⟩
        · refine cw_no rfl (by omega) (cw_skip ?_)
          refine cw_region rfl ?_
          exact ⟨t + 1, ⟨rfl, rfl, slot_i64 _ _ (by omega) (by omega), trivial⟩, ⟨by omega, next (by simp [Sha.okc]; omega), rfl⟩, by omega⟩
  · refine cw_seq (cw_no rfl (by omega) (cw_exit ?_))
    have e := Sha.isTag_yes (s := s) (fun i hi => hok i (by omega))
    rw [e]
    refine cw_seq (cw_region rfl ?_)
    refine ops_q rfl rfl (fun k hk => hk) ?_
    refine ops_q rfl rfl (fun k hk => hk) ?_
    by_cases h1 : 1 ≤ s.length
    · refine ops_q (v := .bool true) rfl rfl (fun k hk => say true (decide_eq_true (by show (1 : Int) ≤ (s.length : Int); omega)) hk) ?_
      conv => whnf
      refine cw_ret ⟨?_, rfl⟩
      rw [decide_eq_true h1, Bool.true_and]
      show Value.bool (decide ((s.length : Int) ≤ 32)) = _
      congr 1
      simp only [decide_eq_decide]
      omega
    · refine ops_q (v := .bool false) rfl rfl (fun k hk => say false (decide_eq_false (by show ¬ (1 : Int) ≤ (s.length : Int); omega)) hk) ?_
      conv => whnf
      refine cw_ret ⟨?_, rfl⟩
      rw [decide_eq_false h1, Bool.false_and]
      rfl
theorem rtag_fn (s : List UInt8) (hs : s.length ≤ maxLen) : FxP Tryz.prog 69 #[.string (bs s)] (.bool (Sha.isTag s)) := by
  intro h
  refine fn_of 34 Tryz.func69 rfl (by kernel_rfl) rfl (by simp) ?_
  have hmax : maxLen < 9223372036854775808 := by decide
  refine cw_seq (cw_region rfl ?_)
  refine cw_seq (cw_seq (cw_region rfl ?_))
  conv => whnf
  refine cw_block ?_
  refine cw_loop (S := Nat) (fun t => [(0, .string (bs s)), (3, .int .i64 (t : Int))])
    (fun t h' => t ≤ s.length ∧ (∀ i, i < t → Sha.okc (s.getD i 0) = true) ∧ h' = h) (fun t => s.length - t) 0 ⟨rfl, rfl, trivial⟩ ⟨by omega, fun i hi => by omega, rfl⟩ ?_
  rintro t h0 ⟨ht, hok, e⟩
  subst h0
  refine cw_seq (cw_seq (cw_region rfl ?_))
  conv => whnf
  by_cases hlt : t < s.length
  · refine cw_yes rfl (by show (t : Int) < (s.length : Int); omega) (cw_skip ?_)
    have hc := u8_lt (s.getD t 0)
    have hg : (bs s)[((t : Int)).toNat]? = some (s.getD t 0) := by
      rw [show ((t : Int)).toNat = t by omega]
      exact bs_get s t hlt
    generalize hcc : s.getD t 0 = c at *
    have next : Sha.okc c = true → ∀ i, i < t + 1 → Sha.okc (s.getD i 0) = true := fun h1 i hi => by
      by_cases hi' : i < t
      · exact hok i hi'
      · have : i = t := by omega
        rw [this, hcc]; exact h1
    refine cw_seq (cw_block (cw_seq (cw_region rfl ?_)))
    conv => whnf
    refine ⟨c, ⟨by omega, hg⟩, ?_⟩
    by_cases h46 : c.toNat = 46
    · refine ops_q (v := .bool false) rfl rfl (fun k hk => ?_) ?_
      · show k (.bool ((c.toNat : Int) != ((46 : Nat) : Int)))
        rw [u8_ne_nat, decide_eq_true h46]; exact hk
      conv => whnf
      refine cw_false rfl (cw_skip ?_)
      refine cw_region rfl ?_
      exact ⟨t + 1, ⟨rfl, slot_i64 _ _ (by omega) (by omega), trivial⟩, ⟨by omega, next (by simp [Sha.okc, h46]), rfl⟩, by omega⟩
    · refine ops_q (v := .bool true) rfl rfl (fun k hk => ?_) ?_
      · show k (.bool ((c.toNat : Int) != ((46 : Nat) : Int)))
        rw [u8_ne_nat, decide_eq_false h46]; exact hk
      conv => whnf
      refine ⟨c, ⟨by omega, hg⟩, ?_⟩
      by_cases h97 : c.toNat < 97
      · refine ops_g (v := .bool true) (b := true) rfl rfl rfl rfl (fun k hk => say true (decide_eq_true (by omega)) hk) ?_
        conv => whnf
        refine cw_true rfl (cw_seq (cw_region rfl ?_))
        have e : Sha.isTag s = false := Sha.isTag_no hlt (by rw [hcc]; simp [Sha.okc, h46]; omega)
        rw [e]
        exact cw_ret ⟨rfl, rfl⟩
      · refine ops_g (v := .bool false) (b := true) rfl rfl rfl rfl (fun k hk => say false (decide_eq_false (by omega)) hk) ?_
        conv => whnf
        refine ⟨c, ⟨by omega, hg⟩, ?_⟩
        conv => whnf
        by_cases h122 : 122 < c.toNat
        · refine cw_yes rfl (by omega) (cw_seq (cw_region rfl ?_))
          have e : Sha.isTag s = false := Sha.isTag_no hlt (by rw [hcc]; simp [Sha.okc, h46]; omega)
          rw [e]
          exact cw_ret ⟨rfl, rfl⟩
        · refine cw_no rfl (by omega) (cw_skip ?_)
          refine cw_region rfl ?_
          exact ⟨t + 1, ⟨rfl, slot_i64 _ _ (by omega) (by omega), trivial⟩, ⟨by omega, next (by simp [Sha.okc]; omega), rfl⟩, by omega⟩
  · refine cw_no rfl (by show ¬ (t : Int) < (s.length : Int); omega) (cw_exit ?_)
    have e := Sha.isTag_yes (s := s) (fun i hi => hok i (by omega))
    rw [e]
    refine cw_seq (cw_region rfl ?_)
    refine ops_q rfl rfl (fun k hk => hk) ?_
    refine ops_q rfl rfl (fun k hk => hk) ?_
    by_cases h1 : 1 ≤ s.length
    · refine ops_q (v := .bool true) rfl rfl (fun k hk => say true (decide_eq_true (by show (1 : Int) ≤ (s.length : Int); omega)) hk) ?_
      conv => whnf
      refine cw_ret ⟨?_, rfl⟩
      rw [decide_eq_true h1, Bool.true_and]
      show Value.bool (decide ((s.length : Int) ≤ 32)) = _
      congr 1
      simp only [decide_eq_decide]
      omega
    · refine ops_q (v := .bool false) rfl rfl (fun k hk => say false (decide_eq_false (by show ¬ (1 : Int) ≤ (s.length : Int); omega)) hk) ?_
      conv => whnf
      refine cw_ret ⟨?_, rfl⟩
      rw [decide_eq_false h1, Bool.false_and]
      rfl
end Go.Proofs.YtgecapllodgdeaaGreatDoor
