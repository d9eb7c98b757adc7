/-
  alive() answers true, in whatever heap.
-/
import Derived.Test.YtkdmpdbbcgdfkaaGreatDoorJ30
namespace Go.Proofs.YtkdmpdbbcgdfkaaGreatDoor.Sx
open Go Vm
set_option maxRecDepth 100000
def saysTrue : Option (SV × St) → Bool
  | some (.b true, st) => Nat.ble 8 st.low
  | _ => false
set_option maxHeartbeats 0 in
theorem alive_run : saysTrue (cx.run 400 10 [] ⟨8, 8, .nil⟩) = true := by kernel_rfl
def σ8 : Env := fun i => if i < 8 then some (i, 0) else none
theorem rep8 {h : Heap} (hh : 8 ≤ h.size) : Rep 8 ⟨8, 8, .nil⟩ σ8 h where
  glob := fun g hg => ⟨0, by simp [σ8, hg]⟩
  has := fun i q hq hi => by
    have : ¬ i < 8 := by omega
    simp [σ8, this] at hq
  ngn := Nat.le_refl _
  dom := fun i q hq => by
    unfold σ8 at hq
    split at hq
    · cases hq; exact ⟨by assumption, by simp only; omega⟩
    · cases hq
  obj := fun i o ho => by simp [Tr.get] at ho
  inj := fun i j o o' q r hi => by simp [Tr.get] at hi
theorem alive_fx {h : Heap} (hh : 8 ≤ h.size) : Fx Tryz.prog 10 #[] h fun v h' => v = .bool true ∧ ExtH h h' := by
  have hr := alive_run
  cases e : cx.run 400 10 [] ⟨8, 8, .nil⟩ with
  | none => rw [e] at hr; cases hr
  | some x =>
    obtain ⟨s, st'⟩ := x
    rw [e] at hr
    have hs : s = .b true ∧ 8 ≤ st'.low := by
      unfold saysTrue at hr
      split at hr
      · rename_i h1; cases h1; exact ⟨rfl, Nat.le_of_ble_eq_true hr⟩
      · cases hr
    obtain ⟨rfl, hlow⟩ := hs
    refine (run_ok cx_ok cx_fnok 400 _ [] _ _ _ e σ8 h [] (rep8 hh) rfl).mono ?_
    rintro v h' ⟨σ', hv, hG⟩
    refine ⟨by simpa [den] using hv.symm, hG.steps.only fun i q hi => ?_⟩
    have h1 : i < 8 := by
      unfold σ8 at hi
      split at hi
      · assumption
      · cases hi
    omega
end Go.Proofs.YtkdmpdbbcgdfkaaGreatDoor.Sx
