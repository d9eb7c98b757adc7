/-
  Maps by texts.
-/
import Derived.Test.YtgecapllodgdeaaGreatDoorVmTree
import Derived.Test.YtgecapllodgdeaaGreatDoorShaStr
import Derived.MapKept
namespace Go.Proofs.YtgecapllodgdeaaGreatDoor.Vm
open Go
set_option linter.unusedSimpArgs false
abbrev MapL := List (List UInt8 × Value)
def mkey (e : MapEntry) : Value × Value := (e.key, e.val)
def mval (p : List UInt8 × Value) : Value × Value := (.string (bs p.1), p.2)
/-- the map of texts at r -/
def MapS (h : Heap) (r : Nat) (m : MapL) : Prop := ∃ (es : Array MapEntry) (c : Nat), h[r]? = some (.map es c) ∧ es.toList.map mkey = m.map mval
def mfind (s : List UInt8) : MapL → Nat → Option (Nat × Value)
  | [], _ => none
  | p :: m, i => if p.1 = s then some (i, p.2) else mfind s m (i + 1)
def mget (m : MapL) (s : List UInt8) : Option Value := (mfind s m 0).map (·.2)
def mput (s : List UInt8) (v : Value) : MapL → MapL
  | [] => [(s, v)]
  | p :: m => if p.1 = s then (s, v) :: m else p :: mput s v m
theorem bs_inj {a b : List UInt8} (h : bs a = bs b) : a = b := by
  have := congrArg ByteArray.toList h
  rwa [bs_toList, bs_toList] at this
theorem bs_eq (a b : List UInt8) : (bs a == bs b) = decide (a = b) := by
  by_cases h : a = b
  · subst h
    rw [decide_eq_true rfl]
    exact (MapKept.bytes_beq _ _).2 rfl
  · rw [decide_eq_false h, Bool.eq_false_iff]
    exact fun e => h (bs_inj ((MapKept.bytes_beq _ _).1 e))
theorem mfind_ge (s : List UInt8) : ∀ (m : MapL) (i j : Nat) (v : Value), mfind s m i = some (j, v) → i ≤ j
  | [], _, _, _, h => by simp [mfind] at h
  | p :: m, i, j, v, h => by
    unfold mfind at h
    split at h
    · cases h; omega
    · have := mfind_ge s m _ _ _ h; omega
theorem mfind_shift (s : List UInt8) : ∀ (m : MapL) (i k : Nat), mfind s m (i + k) = (mfind s m i).map (fun p => (p.1 + k, p.2))
  | [], _, _ => rfl
  | p :: m, i, k => by
    unfold mfind
    split
    · rfl
    · rw [show i + k + 1 = i + 1 + k by omega]; exact mfind_shift s m (i + 1) k
theorem mget_cons (p : List UInt8 × Value) (m : MapL) (s : List UInt8) : mget (p :: m) s = if p.1 = s then some p.2 else mget m s := by
  show Option.map (fun x => x.2) (if p.1 = s then some (0, p.2) else mfind s m (0 + 1)) = _
  split
  · rfl
  · rw [mfind_shift s m 0 1]
    unfold mget
    cases mfind s m 0 <;> rfl
theorem mget_put (m : MapL) (s t : List UInt8) (v : Value) : mget (mput s v m) t = if s = t then some v else mget m t := by
  induction m with
  | nil => show mget [(s, v)] t = _; rw [mget_cons]
  | cons p m ih =>
    unfold mput
    split
    · rename_i e
      rw [mget_cons, mget_cons, e]
      split <;> rfl
    · rename_i e
      rw [mget_cons, mget_cons, ih]
      split
      · rename_i e1
        rw [if_neg (fun e2 => e (e1.trans e2.symm))]
      · rfl
theorem findNow_m (s : List UInt8) : ∀ (l : List MapEntry) (m : MapL) (i : Nat), l.map mkey = m.map mval → Instr.findNow .string (.string (bs s)) l i = some (mfind s m i)
  | [], [], _, _ => rfl
  | [], _ :: _, _, h => by simp at h
  | _ :: _, [], _, h => by simp at h
  | e :: l, p :: m, i, h => by
    simp only [List.map_cons, List.cons.injEq, mkey, mval, Prod.mk.injEq] at h
    obtain ⟨⟨hk, hv⟩, ht⟩ := h
    have ih := findNow_m s l m (i + 1) ht
    unfold Instr.findNow mfind
    rw [hk]
    simp only [Instr.sameNow, bs_eq]
    by_cases hc : s = p.1
    · rw [decide_eq_true hc, if_pos hc.symm, hv]
    · rw [decide_eq_false hc, if_neg (fun e => hc e.symm)]
      exact ih
theorem mput_none (s : List UInt8) (v : Value) : ∀ (m : MapL) (i : Nat), mfind s m i = none → mput s v m = m ++ [(s, v)]
  | [], _, _ => rfl
  | p :: m, i, h => by
    unfold mfind at h
    split at h
    · cases h
    · rename_i e
      unfold mput
      rw [if_neg e, mput_none s v m _ h]
      rfl
theorem mput_some (s : List UInt8) (v u : Value) : ∀ (l : List MapEntry) (m : MapL) (j : Nat), l.map mkey = m.map mval → mfind s m 0 = some (j, u) →
    (l.modify j fun e => { e with key := .string (bs s), val := v }).map mkey = (mput s v m).map mval
  | [], [], _, _, h => by simp [mfind] at h
  | [], _ :: _, _, h, _ => by simp at h
  | _ :: _, [], _, h, _ => by simp at h
  | e :: l, p :: m, j, h, hf => by
    have h0 := h
    simp only [List.map_cons, List.cons.injEq] at h
    unfold mfind at hf
    unfold mput
    split at hf
    · rename_i e1
      cases hf
      rw [if_pos e1]
      simp only [List.modify_zero_cons, List.map_cons, h.2]
      rfl
    · rename_i e1
      rw [if_neg e1]
      have := mfind_shift s m 0 1
      rw [this] at hf
      cases hc : mfind s m 0 with
      | none => rw [hc] at hf; simp at hf
      | some q =>
        rw [hc] at hf
        simp only [Option.map_some, Option.some.injEq, Prod.mk.injEq] at hf
        obtain ⟨rfl, rfl⟩ := hf
        simp only [List.modify_succ_cons, List.map_cons, h.1]
        rw [mput_some s v q.2 l m q.1 h.2 (by rw [hc])]
section
variable {P : Program} {t kt et : TypeId} {inf : TypeInfo} {z : Value} (ht : P.underlying t = some (.map kt et)) (hk : P.underlying kt = some .string)
include ht hk
theorem lookup_s (hi : P.info? et = some inf) (hz : inf.zero = some z) {h : Heap} {r : Nat} {m : MapL} (M : MapS h r m) (s : List UInt8) (ok : Bool) (w : World) (hw : ExtH h w.heap) :
    (Instr.lookup t (.map (some r)) (.string (bs s)) ok).run P w = .ok (if ok then .tuple #[(mget m s).getD z, .bool (mget m s).isSome] else (mget m s).getD z) w := by
  obtain ⟨es, c, hb, he⟩ := M
  have hb' : w.heap[r]? = some (.map es c) := by rw [hw.block r (Array.getElem?_eq_some_iff.1 hb).1]; exact hb
  have hf := findNow_m s es.toList m 0 he
  have hc := MapKept.run_checkKey (P := P) (w := w) (k := .string (bs s)) hk (by simp [MapKept.IsKey]) es.isEmpty 9999
  have hfk := MapKept.run_findKey (P := P) (w := w) hk hf
  unfold mget
  cases hm : mfind s m 0 with
  | none =>
    rw [hm] at hfk
    simp [Instr.lookup, run_underlying ht, MapKept.run_getObj_map hb', hc, hfk, Result.andThen, zeroValue, typeInfo, hi, hz]
  | some q =>
    rw [hm] at hfk
    simp [Instr.lookup, run_underlying ht, MapKept.run_getObj_map hb', hc, hfk, Result.andThen]
theorem update_s {h : Heap} {r : Nat} {m : MapL} (M : MapS h r m) (s : List UInt8) (v : Value) :
    RunsU P (Instr.mapUpdate t (.map (some r)) (.string (bs s)) v) h fun h' => MapS h' r (mput s v m) ∧ Chg (fun b => b = r) h h' := by
  intro w hw
  subst hw
  obtain ⟨es, c, hb, he⟩ := M
  have hf := findNow_m s es.toList m 0 he
  have hc := MapKept.run_checkKey (P := P) (w := w) (k := .string (bs s)) hk (by simp [MapKept.IsKey]) false 9999
  have hfk := MapKept.run_findKey (P := P) (w := w) hk hf
  have set_ : ∀ es' c', Chg (fun b => b = r) w.heap (w.heap.setIfInBounds r (.map es' c')) := fun es' c' => ⟨by simp, fun b hb hne => by simp [Ne.symm hne]⟩
  cases hm : mfind s m 0 with
  | none =>
    rw [hm] at hfk
    refine ⟨{ w with heap := w.heap.setIfInBounds r (.map (es.push { key := .string (bs s), val := v, born := c }) (c + 1)) }, ?_, ⟨rfl, rfl, rfl⟩, ⟨_, _, (MapKept.heap_set hb).1, ?_⟩, set_ _ _⟩
    · simp [Instr.mapUpdate, run_underlying ht, MapKept.run_getObj_map hb, hc, hfk, MapKept.run_setObj_map _ hb, Result.andThen]
    · rw [mput_none s v m 0 hm]
      simp [he, mkey, mval]
  | some q =>
    rw [hm] at hfk
    have hks : (Instr.keyThatStays (((es[q.1]?).map (·.key)).getD (.string (bs s))) (.string (bs s))).run P w = .ok (.string (bs s)) w := by
      have : ((es[q.1]?).map (·.key)).getD (.string (bs s)) = .string (bs s) := by
        rcases MapKept.findNow_spec (d := .string) (k := .string (bs s)) (by simp [MapKept.IsKey]) es.toList 0 (fun x hx => by
          have : mkey x ∈ m.map mval := he ▸ List.mem_map_of_mem hx
          obtain ⟨p, _, hp⟩ := List.mem_map.1 this
          simp only [mkey, mval, Prod.mk.injEq] at hp
          rw [← hp.1]; simp [MapKept.IsKey]) with ⟨h1, _⟩ | ⟨j, e, h1, h2, h3⟩
        · rw [hf, hm] at h1; simp at h1
        · rw [hf, hm] at h1
          simp only [Option.some.injEq] at h1
          have h1' : q.1 = 0 + j := congrArg Prod.fst h1
          rw [h1', Nat.zero_add, ← Array.getElem?_toList, h2]
          exact h3
      rw [this]
      exact MapKept.run_keyThatStays (d := .string) (by simp [MapKept.IsKey])
    refine ⟨{ w with heap := w.heap.setIfInBounds r (.map (es.modify q.1 fun e => { e with key := .string (bs s), val := v }) c) }, ?_, ⟨rfl, rfl, rfl⟩, ⟨_, _, (MapKept.heap_set hb).1, ?_⟩, set_ _ _⟩
    · simp [Instr.mapUpdate, run_underlying ht, MapKept.run_getObj_map hb, hc, hfk, hks, MapKept.run_setObj_map _ hb, Result.andThen]
    · rw [Array.toList_modify]
      exact mput_some s v q.2 es.toList m q.1 he hm
end
theorem MapS.keep {S : Nat → Prop} {h h' : Heap} {r : Nat} {m : MapL} (M : MapS h r m) (c : Chg S h h') (hr : ¬ S r) : MapS h' r m := by
  obtain ⟨es, k, hb, he⟩ := M
  exact ⟨es, k, by rw [c.block r (Array.getElem?_eq_some_iff.1 hb).1 hr]; exact hb, he⟩
theorem MapS.more {h h' : Heap} {r : Nat} {m : MapL} (M : MapS h r m) (e : ExtH h h') : MapS h' r m := M.keep (S := fun _ => False) e.chg (fun e => e)
theorem MapS.lt {h : Heap} {r : Nat} {m : MapL} (M : MapS h r m) : r < h.size := by
  obtain ⟨es, k, hb, _⟩ := M
  exact (Array.getElem?_eq_some_iff.1 hb).1
/-- a map's block is no row's -/
theorem MapS.ne {h : Heap} {r : Nat} {m : MapL} (M : MapS h r m) {b : Nat} {l : List Value} {t : TypeId} (hb : Blk h b l t) : b ≠ r := by
  rintro rfl
  obtain ⟨es, k, h1, _⟩ := M
  unfold Blk at hb
  rw [hb] at h1
  injection h1 with h1
  cases h1
theorem MapS.new {h h' : Heap} (n : Newed h h' (.map #[] 0)) : MapS h' h.size [] := ⟨#[], 0, n.new, rfl⟩
end Go.Proofs.YtgecapllodgdeaaGreatDoor.Vm
