/-
  One operation of a drawn region's head, with the value that we say; quiet calls.
-/
import Derived.Test.YtgecapllodgdeaaGreatDoorVmEq
namespace Go.Proofs.YtgecapllodgdeaaGreatDoor.Vm
open Go
section
variable {P : Program} {all : List Oper} {o : Oper} {fr : Fr} {h : Heap}
theorem head_g {imp : Nat → Bool} {h0 : Heap} {L : Fr → Heap → Prop} {i : Nat} {p : List Nat} {v : Value} {j d : Nat} {b : Bool} (ho : all[i]? = some o) (hg : o.guard = some (j, b)) (hd : (all[j]?).bind (·.dst) = some d)
    (hl : lk fr d = some (.bool b)) (hi : imp i = false) (hq : quietOp P o = true)
    (hv : ∀ k : Value → Prop, k v → opq P o fr h0 k) (H : evH P all imp h0 L p (put fr o.dst v) h) : evH P all imp h0 L (i :: p) fr h := by
  unfold evH gk
  simp only [ho, hg, hi, hd, hl]
  have : opqc P o fr h0 (fun v => evH P all imp h0 L p (put fr o.dst v) h) := by
    unfold opqc
    rw [hq]
    exact hv _ H
  cases b <;> exact this
theorem head_skip {imp : Nat → Bool} {h0 : Heap} {L : Fr → Heap → Prop} {i : Nat} {p : List Nat} {j d : Nat} {b : Bool} (ho : all[i]? = some o) (hg : o.guard = some (j, b)) (hd : (all[j]?).bind (·.dst) = some d)
    (hl : lk fr d = some (.bool !b)) (H : evH P all imp h0 L p (put fr o.dst undef) h) : evH P all imp h0 L (i :: p) fr h := by
  unfold evH gk
  simp only [ho, hg, hd, hl]
  cases b <;> exact H
end
theorem Fx.q {P : Program} {f : FuncId} {args : Array Value} {h : Heap} {v : Value} (H : ∀ h1, ExtH h h1 → Fx P f args h1 fun u h' => u = v ∧ h' = h1) : FxQ P f args h v :=
  fun h1 x => (H h1 x).mono fun _ _ ⟨e, e'⟩ => ⟨e, e' ▸ ExtH.refl _⟩
end Go.Proofs.YtgecapllodgdeaaGreatDoor.Vm
