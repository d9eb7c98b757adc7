/-
  A closed fact of the row of treadlelaw25.ToolNil.
-/
import Derived.Test.YthigegabdbkhiaaGreatDoorJ14
import Derived.Test.YthigegabdbkhiaaGreatDoorJ15
import Derived.Test.YthigegabdbkhiaaGreatDoorJ16
import Derived.Test.YthigegabdbkhiaaGreatDoorJ18
import Derived.Test.YthigegabdbkhiaaGreatDoorJ19
import Derived.Test.YthigegabdbkhiaaGreatDoorJ20
namespace Go.Proofs.YthigegabdbkhiaaGreatDoor.toolNil
open Go
set_option maxRecDepth 100000
set_option maxHeartbeats 0 in
theorem closed : joinedFacts Tryz.prog 3 Tryz.f3 (Rows.OpenSpec.upto Rows.toolNilSpec).bare Rows.toolNilUptoRow = true := by
  unfold joinedFacts
  simp only [Bool.and_eq_true]
  repeat' apply And.intro
  all_goals first
    | (with_reducible exact kInPlace)
    | (with_reducible exact kUnfollowed)
    | (with_reducible exact kRecurses)
    | (with_reducible exact kNamed)
    | (with_reducible exact laidOut)
    | (as_aux_lemma => kernel_rfl)
end Go.Proofs.YthigegabdbkhiaaGreatDoor.toolNil
