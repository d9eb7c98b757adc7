/-
  The contract of package sha's Compare.
-/
import Derived.Test.YtnjimdjojinffaaShaHex
import Derived.Lib.BytesEntry
import Derived.Laws.Externs
namespace Go.Proofs.Ytnjimdjojinffaa.Sha
/-- the order of bytes, as their texts stand in it -/
def cmp : List UInt8 → List UInt8 → Int
  | [], [] => 0
  | [], _ :: _ => -1
  | _ :: _, [] => 1
  | x :: l, y :: m => if x < y then -1 else if y < x then 1 else cmp l m
end Go.Proofs.Ytnjimdjojinffaa.Sha
namespace Go.Proofs.Ytnjimdjojinffaa
open Go Vm
set_option maxRecDepth 100000
theorem bs_getB (l : List UInt8) (i : Nat) : (bs l)[i]! = l.getD i 0 := by
  by_cases h : i < l.length
  · have hs : i < (bs l).size := h
    rw [getElem!_pos (bs l) i hs, List.getD_eq_getElem?_getD, List.getElem?_eq_getElem h]
    rfl
  · have hs : ¬ i < (bs l).size := h
    rw [getElem!_neg (bs l) i hs, List.getD_eq_getElem?_getD, List.getElem?_eq_none (by omega)]
    rfl
def cmpL (l m : List UInt8) : Int :=
  match (List.range (min l.length m.length)).find? fun i => l.getD i 0 != m.getD i 0 with
  | some i => if l.getD i 0 < m.getD i 0 then -1 else 1
  | none => if l.length < m.length then -1 else if l.length > m.length then 1 else 0
theorem cmpL_eq : ∀ (l m : List UInt8), cmpL l m = Sha.cmp l m
  | [], [] => rfl
  | [], _ :: _ => by simp [cmpL, Sha.cmp]
  | _ :: _, [] => by simp [cmpL, Sha.cmp]
  | x :: l, y :: m => by
    have ih := cmpL_eq l m
    unfold Sha.cmp
    rw [← ih]
    unfold cmpL
    rw [show min (x :: l).length (y :: m).length = min l.length m.length + 1 by simp, List.range_succ_eq_map, List.find?_cons]
    by_cases hxy : x = y
    · subst hxy
      have hlt : ¬ x < x := UInt8.lt_irrefl x
      rw [show ((x :: l).getD 0 0 != (x :: m).getD 0 0) = false by simp]
      simp only [hlt, if_false, List.find?_map]
      have : ((fun i => (x :: l).getD i 0 != (x :: m).getD i 0) ∘ Nat.succ) = fun i => l.getD i 0 != m.getD i 0 := by
        funext i; simp
      rw [this]
      cases (List.range (min l.length m.length)).find? fun i => l.getD i 0 != m.getD i 0 with
      | none => simp
      | some i => simp
    · rw [show ((x :: l).getD 0 0 != (y :: m).getD 0 0) = true by simp [hxy]]
      simp only [List.getD_cons_zero]
      by_cases h1 : x < y
      · simp [h1]
      · have h2 : y < x := by
          have h3 : ¬ x.toNat < y.toNat := h1
          have h4 : x.toNat ≠ y.toNat := fun e => hxy (UInt8.toNat_inj.1 e)
          show y.toNat < x.toNat
          omega
        simp [h1, h2]
theorem cmp_bs (l m : List UInt8) : Extern.BytealgCompare.cmp (bs l) (bs m) = Sha.cmp l m := by
  rw [← cmpL_eq]
  unfold Extern.BytealgCompare.cmp cmpL
  simp only [bs_getB, bs_size]
  generalize (List.range (min l.length m.length)).find? _ = o
  cases o <;> rfl
theorem run_bytesOf {h : Heap} {v : Value} {l : List UInt8} (r : RB h v l) {w : World} (hw : w.heap = h) : (Extern.Bytes.bytesOf v).run Try.prog w = .ok (bs l) w := by
  subst hw
  rcases r.cases with ⟨rfl, rfl⟩ | ⟨A, cap, rfl, hc, hm, hr⟩
  · rfl
  · have := Lib.run_loadBytesX (P := Try.prog) (w := w) (l.map (fun b => (b.toNat : Int))) A .empty (fun j x hj => by
      rw [cell_eq_rd]
      refine hr j _ ?_
      rw [map_u8v, List.getElem?_map, hj]
      rfl)
    show (Extern.Bytes.loadBytes A l.length .empty).run _ w = _
    rw [List.length_map] at this
    rw [this]
    congr 1
    apply ByteArray.ext
    show (#[] : Array UInt8) ++ (Lib.bytesOf (l.map (fun b => (b.toNat : Int)))).toArray = l.toArray
    rw [Array.empty_append]
    congr 1
    unfold Lib.bytesOf
    rw [List.map_map]
    conv => rhs; rw [← List.map_id l]
    apply List.map_congr_left
    intro b _
    simp
theorem bytealg_fn {h : Heap} {u v : Value} {l m : List UInt8} (hu : RB h u l) (hv : RB h v m) : Fx Try.prog 49 #[u, v] h fun r h' => r = .int .i64 (Sha.cmp l m) ∧ h' = h := by
  refine .inr fun w hw => ⟨.int .i64 (Sha.cmp l m), w, ?_, SameEnv.refl w, rfl, hw⟩
  rw [run_callFunc_extern (P := Try.prog) (f := 49) (e := Extern.BytealgCompare.compare) Try.func49 (by kernel_rfl) (by kernel_rfl) (by kernel_rfl) (by kernel_rfl)]
  rw [show Extern.BytealgCompare.compare #[u, v] = (do pure (goInt (Extern.BytealgCompare.cmp (← Extern.Bytes.bytesOf u) (← Extern.Bytes.bytesOf v)))) from rfl]
  simp only [Sem.run_bind, run_bytesOf hu hw, run_bytesOf hv hw, Result.andThen_ok, cmp_bs]
  rfl
end Go.Proofs.Ytnjimdjojinffaa
