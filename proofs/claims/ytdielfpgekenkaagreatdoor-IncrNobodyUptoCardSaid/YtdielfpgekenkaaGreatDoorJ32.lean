/-
  A closed fact of the row of treadlelaw24.IncrNobody.
-/
import Derived.Test.YtdielfpgekenkaaGreatDoorJ26
import Derived.Test.YtdielfpgekenkaaGreatDoorJ27
import Derived.Test.YtdielfpgekenkaaGreatDoorJ28
import Derived.Test.YtdielfpgekenkaaGreatDoorJ29
import Derived.Test.YtdielfpgekenkaaGreatDoorJ30
import Derived.Test.YtdielfpgekenkaaGreatDoorJ31
namespace Go.Proofs.YtdielfpgekenkaaGreatDoor.incrNobody
open Go
set_option maxRecDepth 100000
set_option maxHeartbeats 0 in
theorem closed : joinedFacts Tryz.prog 3 Tryz.f3 (Rows.OpenSpec.upto Rows.incrNobodySpec).bare Rows.incrNobodyUptoRow = true := by
  unfold joinedFacts
  simp only [Bool.and_eq_true]
  repeat' apply And.intro
  all_goals first
    | (with_reducible exact kInPlace)
    | (with_reducible exact kUnfollowed)
    | (with_reducible exact kRecurses)
    | (with_reducible exact kNamed)
    | (with_reducible exact laidOut)
    | (as_aux_lemma => kernel_rfl)
end Go.Proofs.YtdielfpgekenkaaGreatDoor.incrNobody
