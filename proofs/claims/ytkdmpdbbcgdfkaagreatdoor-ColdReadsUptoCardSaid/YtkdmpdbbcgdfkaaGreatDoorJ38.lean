/-
  The closed facts of the row of ColdReads, together.
-/
import Derived.Test.YtkdmpdbbcgdfkaaGreatDoorJ33
import Derived.Test.YtkdmpdbbcgdfkaaGreatDoorJ34
import Derived.Test.YtkdmpdbbcgdfkaaGreatDoorJ35
import Derived.Test.YtkdmpdbbcgdfkaaGreatDoorJ36
import Derived.Test.YtkdmpdbbcgdfkaaGreatDoorJ37
namespace Go.Proofs.YtkdmpdbbcgdfkaaGreatDoor.coldReads
open Go
set_option maxRecDepth 100000
set_option maxHeartbeats 0 in
theorem closed : joinedFacts Tryz.prog 4 Tryz.f4 (Rows.OpenSpec.upto Rows.coldReadsSpec).bare Rows.coldReadsUptoRow = true := by
  unfold joinedFacts
  simp only [Bool.and_eq_true]
  repeat' apply And.intro
  all_goals first
    | (with_reducible exact kInPlace)
    | (with_reducible exact kUnfollowed)
    | (with_reducible exact kRecurses)
    | (with_reducible exact kNamed)
    | (as_aux_lemma => kernel_rfl)
end Go.Proofs.YtkdmpdbbcgdfkaaGreatDoor.coldReads
