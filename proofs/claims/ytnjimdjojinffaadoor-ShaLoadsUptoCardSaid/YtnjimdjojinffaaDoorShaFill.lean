/-
  Bytes of our own that are written over.
-/
import Derived.Test.YtnjimdjojinffaaDoorShaRefTag
namespace Go.Proofs.YtnjimdjojinffaaDoor
open Go Vm
set_option maxRecDepth 100000
theorem wrap_u8v (z : Int) : ∃ c : UInt8, Value.int .u8 (IntKind.u8.wrap z) = u8v c := by
  refine ⟨UInt8.ofNat (z % 256).toNat, ?_⟩
  rw [IntKind.wrap_u8]
  unfold u8v
  congr 1
  simp
  omega
/-- what is to be shown where a byte of our own is written -/
theorem OB.put {h : Heap} {A : Option Addr} {n k : Nat} {l : List UInt8} (o : OB h (.slice A n k) l) (t : Nat) (ht : t < l.length) : ∃ g, A = some ⟨g, 0, none⟩ ∧ ∀ (v : Value) (c : UInt8), v = u8v c → ∀ K : Heap → Prop,
    (∀ h', Chg (fun b => b = g) h h' → OB h' (.slice A n k) (l.set t c) → K h') → ∃ cs ty, Blk h g cs ty ∧ t < cs.length ∧ ∀ h', Wrote h h' g (cs.set t v) ty → K h' := by
  rcases o.cases with ⟨_, rfl⟩ | ⟨g, cap, tl, hv, hc, hm, hg, hcl⟩
  · simp at ht
  · injection hv with ha hn hk
    subst ha hn hk
    refine ⟨g, rfl, fun v c hv K hK => ⟨_, _, hg, by simp; omega, fun h' w => hK h' w.chg ?_⟩⟩
    subst hv
    have e : (l.map u8v ++ tl).set t (u8v c) = (l.set t c).map u8v ++ tl := by
      rw [List.set_append_left _ _ (by simpa using ht), List.map_set]
    rw [e] at w
    refine ⟨by simp, .inr ⟨g, k, tl, by simp, w.new, by simpa using hc, hm, by simp; omega⟩⟩
end Go.Proofs.YtnjimdjojinffaaDoor
