/-
  A hash that took the bytes m, as the laws use it.
-/
import Derived.Test.YtgecapllodgdeaaGreatDoorShaOpen
namespace Go.Proofs.YtgecapllodgdeaaGreatDoor
open Go Vm
set_option maxRecDepth 100000
/-- the hash at p took the bytes m -/
def Took (h : Heap) (p : Nat) (v : Value) (m : List UInt8) : Prop := HashAt h p v (Sha.feed Sha.H0 m) (Sha.rest m) m.length
theorem Took.more {h h' : Heap} {p : Nat} {v : Value} {m : List UInt8} (T : Took h p v m) (x : ExtH h h') : Took h' p v m := HashAt.more T x
theorem Took.keep {S : Nat → Prop} {h h' : Heap} {p : Nat} {v : Value} {m : List UInt8} (T : Took h p v m) (c : Chg S h h') (hp : ¬ S p) (hv : ∀ b, ob v b → ¬ S b) : Took h' p v m := HashAt.keep T c hp hv
theorem took_new (h : Heap) : Fx Tryz.prog 66 #[] h fun v' h' => ∃ p, v' = .pointer (some ⟨p, 0, none⟩) ∧ h.size ≤ p ∧ Took h' p (.slice none 0 0) [] ∧ ExtH h h' := new_fn h
theorem took_write {D : Nat → Prop} {h : Heap} {p : Nat} {v x : Value} {m : List UInt8} {ms : List (List UInt8)} {pv : List Value} (T : Took h p v m) (hx : PD D h x ms pv)
    (hD : ∀ b, D b → b < h.size ∧ b ≠ p ∧ ¬ ob v b) (hms : m.length + ms.flatten.length ≤ 100000000000000) :
    Fx Tryz.prog 67 #[.pointer (some ⟨p, 0, none⟩), x] h fun u h' => u = .int .i64 0 ∧ ∃ v', Took h' p v' (m ++ ms.flatten) ∧ Chg (fun b => b = p ∨ ob v b) h h' ∧ ∀ b, ob v' b → ob v b ∨ h.size ≤ b := by
  refine (write_fn T hx hD (Sha.rest_lt m) (by omega) (by omega)).mono ?_
  rintro _ h' ⟨rfl, v', H', c', f'⟩
  refine ⟨rfl, v', ?_, c', f'⟩
  unfold Took
  rw [Sha.feed_app, List.length_append, ← Sha.rest_app]
  exact H'
theorem took_sum {h : Heap} {p : Nat} {v : Value} {m : List UInt8} (T : Took h p v m) (hm : m.length ≤ 100000000000000) :
    Fx Tryz.prog 68 #[.pointer (some ⟨p, 0, none⟩)] h fun u h' => u = .agg ((Sha.digest m).map u8v).toArray ∧ ExtH h h' :=
  sum_fn T (by have := Sha.rest_lt m; omega) (by omega)
theorem took_sum_q {h : Heap} {p : Nat} {v : Value} {m : List UInt8} (T : Took h p v m) (hm : m.length ≤ 100000000000000) :
    FxQ Tryz.prog 68 #[.pointer (some ⟨p, 0, none⟩)] h (.agg ((Sha.digest m).map u8v).toArray) := fun _ x => took_sum (T.more x) hm
theorem took_clone {h : Heap} {p : Nat} {v : Value} {m : List UInt8} (T : Took h p v m) :
    Fx Tryz.prog 99 #[.pointer (some ⟨p, 0, none⟩)] h fun u h' => ∃ q v', u = .pointer (some ⟨q, 0, none⟩) ∧ h.size ≤ q ∧ Took h' q v' m ∧ ExtH h h' ∧ ∀ b, ob v' b → h.size ≤ b :=
  hclone_fn T (by have := Sha.rest_lt m; omega)
/-- bytes of old blocks, in a world with other blocks behind -/
theorem RD.old {B : Nat} {h h' : Heap} {v : Value} {l : List UInt8} {D' : Nat → Prop} (R : RD (fun b => b < B) h v l) (_ : B ≤ h.size) (x : ∀ b, b < B → h'[b]? = h[b]?) (hs : h.size ≤ h'.size) (hD : ∀ b, b < B → D' b) : RD D' h' v l := by
  have c : Chg (fun b => B ≤ b) h h' := ⟨hs, fun b _ hn => x b (by omega)⟩
  have := R.keep c (fun b hb => by omega)
  exact ⟨this.1, fun hne b hb => hD b (this.2 hne b hb)⟩
theorem dig_same (xo yo : Operand) (l : List UInt8) (h : l.length = 32) (w : World) :
    (do eqGuard .eql 53 xo yo (.agg (l.map u8v).toArray) (.agg (l.map u8v).toArray); binOp .eql 53 (.agg (l.map u8v).toArray) (.agg (l.map u8v).toArray) : Sem Value).run Tryz.prog w = .ok (.bool true) w :=
  (dig_eq xo yo l l h h w).trans (by simp)
theorem dig_differ (xo yo : Operand) (l : List UInt8) (h : l.length = 32) (w : World) :
    (do eqGuard .neq 53 xo yo (.agg (l.map u8v).toArray) (.agg (l.map u8v).toArray); binOp .neq 53 (.agg (l.map u8v).toArray) (.agg (l.map u8v).toArray) : Sem Value).run Tryz.prog w = .ok (.bool false) w :=
  (dig_ne xo yo l l h h w).trans (by simp)
end Go.Proofs.YtgecapllodgdeaaGreatDoor
