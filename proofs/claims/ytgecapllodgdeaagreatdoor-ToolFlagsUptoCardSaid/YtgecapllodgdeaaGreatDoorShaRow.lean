/-
  From a contract over a heap to the row's step: a call that comes back with true and only makes blocks.
-/
import Derived.Test.YtgecapllodgdeaaGreatDoorVmEq
import Derived.WalkKit
import Derived.ProofKit
import Derived.OpenShut
import Derived.ShutString
import Derived.ChangeOld
import Derived.Below
namespace Go.Proofs.YtgecapllodgdeaaGreatDoor.Vm
open Go Go.RowKit
theorem Fx.calls {P : Program} {f : FuncId} {args : Array Value} {W : World} (hp : plain P f = true) (H : Fx P f args W.heap fun v h' => v = .bool true ∧ ExtH W.heap h') :
    Calls P f args W fun e W' => e = .returned (.bool true) ∧ Below W.heap.size W W' := by
  rcases H with ⟨_, H⟩ | H
  · refine (H W rfl).mono ?_
    rintro e w' ⟨v, rfl, hs, rfl, hx⟩
    exact ⟨rfl, ⟨hs.os, hs.tape, hs.output, hx.size, hx.block⟩⟩
  · obtain ⟨v, w', h1, _⟩ := H W rfl
    unfold plain at hp
    split at hp
    · rename_i fn hfn
      simp only [Bool.and_eq_true, bne_iff_ne, ne_eq] at hp
      obtain ⟨body, hb⟩ := Option.isSome_iff_exists.1 hp.1
      simp [callFunc, hfn, hp.2, hb] at h1
    · cases hp
end Go.Proofs.YtgecapllodgdeaaGreatDoor.Vm
