/-
  Texts and bytes.
-/
import Derived.Test.YtgecapllodgdeaaGreatDoorShaRef1
import Derived.Laws.IdiomStrings
import Derived.Laws.BytesArg
import Derived.Laws.Strings
namespace Go.Proofs.YtgecapllodgdeaaGreatDoor
open Go Vm
set_option maxRecDepth 100000
def bs (l : List UInt8) : ByteArray := ⟨l.toArray⟩
theorem bs_size (l : List UInt8) : (bs l).size = l.length := rfl
theorem bs_toList (l : List UInt8) : (bs l).toList = l := by
  exact ByteArray.toList_mk l
theorem conv_str {src dst e : TypeId} (hs : Tryz.prog.underlying src = some (.slice e)) (he : Tryz.prog.underlying e = some (.int .u8)) (hd : Tryz.prog.underlying dst = some .string) {h : Heap} {v : Value} {l : List UInt8} (r : RB h v l) :
    RunsV Tryz.prog (convert src dst v) h fun u h' => u = .string (bs l) ∧ h' = h := by
  intro w hw
  subst hw
  rcases r.cases with ⟨rfl, rfl⟩ | ⟨A, cap, rfl, hc, hm, hr⟩
  · exact ⟨_, w, run_convert_bytes_nil (P := Tryz.prog) w src e hs he 0 0 dst hd, SameEnv.refl w, rfl, rfl⟩
  · exact ⟨_, w, run_convert_bytes_back (P := Tryz.prog) w src dst e A cap l hs he hd (fun j hj => by
      rw [cell_eq_rd]
      exact hr j _ (by simp [hj, u8v])), SameEnv.refl w, rfl, rfl⟩
theorem say {k : Value → Prop} {p : Prop} [Decidable p] (b : Bool) (hb : decide p = b) (hk : k (.bool b)) : k (.bool (decide p)) := by rw [hb]; exact hk
theorem bs_get (s : List UInt8) (i : Nat) (h : i < s.length) : (bs s)[i]? = some (s.getD i 0) := by
  have hs : i < (bs s).size := h
  rw [getElem?_pos (bs s) i hs]
  congr 1
  rw [List.getD_eq_getElem?_getD, List.getElem?_eq_getElem h]
  rfl
theorem bs_append (a b : List UInt8) : bs a ++ bs b = bs (a ++ b) := by
  apply ByteArray.ext
  show (bs a ++ bs b).data = _
  rw [ByteArray.data_append]
  simp [bs]
end Go.Proofs.YtgecapllodgdeaaGreatDoor
