/-
  Tables as trees.
  The context of this program. Printed by a program.
-/
import Derived.Test.YtkdmpdbbcgdfkaaGreatDoorJ27
import Derived.Test.YtkdmpdbbcgdfkaaGreatDoorJ28
import Derived.Test.YtkdmpdbbcgdfkaaGreatDoorProg
namespace Go.Proofs.YtkdmpdbbcgdfkaaGreatDoor.Sx
open Go Vm
set_option linter.unusedSimpArgs false
set_option linter.unusedVariables false
def evens {α : Type} : List α → List α
  | [] => []
  | [x] => [x]
  | x :: _ :: r => x :: evens r
def odds {α : Type} : List α → List α
  | [] => []
  | _ :: r => evens r
def ofList {α : Type} : Nat → List α → Tr α
  | 0, _ => .nil
  | _ + 1, [] => .nil
  | g + 1, x :: r => .node (ofList g (evens r)) (some x) (ofList g (odds r))
theorem evens_get {α : Type} : ∀ (l : List α) (k : Nat), (evens l)[k]? = l[2 * k]?
  | [], k => by simp [evens]
  | [x], k => by cases k with
    | zero => rfl
    | succ k => simp [evens]
  | x :: y :: r, k => by cases k with
    | zero => rfl
    | succ k =>
      have : 2 * (k + 1) = 2 * k + 1 + 1 := by omega
      rw [this]
      simp only [evens, List.getElem?_cons_succ]
      exact evens_get r k
theorem odds_get {α : Type} (l : List α) (k : Nat) : (odds l)[k]? = l[2 * k + 1]? := by
  cases l with
  | nil => simp [odds]
  | cons x r => simp only [odds, List.getElem?_cons_succ]; exact evens_get r k
theorem evens_len {α : Type} : ∀ (l : List α), (evens l).length = (l.length + 1) / 2
  | [] => by simp [evens]
  | [x] => by simp [evens]
  | x :: y :: r => by simp only [evens, List.length_cons, evens_len r]; omega
theorem odds_len {α : Type} (l : List α) : (odds l).length = l.length / 2 := by
  cases l with
  | nil => simp [odds]
  | cons x r => simp only [odds, evens_len, List.length_cons]
theorem ofList_get {α : Type} : ∀ (g : Nat) (l : List α), l.length < 2 ^ g → ∀ i, (ofList g l).get i = l[i]?
  | 0, l, h, i => by
    have : l = [] := List.eq_nil_of_length_eq_zero (by omega)
    subst this; simp [ofList, Tr.get]
  | g + 1, [], h, i => by simp [ofList, Tr.get]
  | g + 1, x :: r, h, i => by
    have h1 : (evens r).length < 2 ^ g := by rw [evens_len]; simp only [List.length_cons, Nat.pow_succ] at h; omega
    have h2 : (odds r).length < 2 ^ g := by rw [odds_len]; simp only [List.length_cons, Nat.pow_succ] at h; omega
    unfold ofList
    cases i with
    | zero => simp [Tr.get]
    | succ i =>
      unfold Tr.get
      simp only [List.getElem?_cons_succ]
      split
      · rw [ofList_get g _ h1, evens_get]; congr 1; omega
      · rw [ofList_get g _ h2, odds_get]; congr 1; omega
end Go.Proofs.YtkdmpdbbcgdfkaaGreatDoor.Sx
namespace Go.Proofs.YtkdmpdbbcgdfkaaGreatDoor.Sx
open Go Vm
def dfrL (f : Nat) : Bool := f == 164 || f == 175 || f == 250 || f == 261
def hooks (f : Nat) : Option (List SV → St → Option (SV × St)) := if f = 288 then some hSha else if f = 170 then some (hColl 1048576) else none
def tabOf (f id : Nat) : Option Tab := (lookL tabL f).bind fun l => lookL l id
noncomputable def cx : Cx where
  P := Tryz.prog
  ty := ofList 12 Tryz.prog.types.toList
  fn := ofList 12 Tryz.prog.funcs.toList
  tab := tabOf
  hook := hooks
  dfr := dfrL
  room := 1048576
  ng := 8
end Go.Proofs.YtkdmpdbbcgdfkaaGreatDoor.Sx
