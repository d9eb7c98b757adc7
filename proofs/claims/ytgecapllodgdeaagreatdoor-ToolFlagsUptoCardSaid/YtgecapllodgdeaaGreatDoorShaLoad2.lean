/-
  The contract of package sha's Load where it takes the state.
-/
import Derived.Test.YtgecapllodgdeaaGreatDoorShaTook
namespace Go.Proofs.YtgecapllodgdeaaGreatDoor
open Go Vm
set_option maxRecDepth 100000
/-- a state, as it is handed over -/
def stateC (s : Sha.S8) (b : Value) (n : Nat) : List Value := [u32v s.a, u32v s.b, u32v s.c, u32v s.d, u32v s.e, u32v s.f, u32v s.g, u32v s.h, b, .int .u64 (n : Int)]
end Go.Proofs.YtgecapllodgdeaaGreatDoor
