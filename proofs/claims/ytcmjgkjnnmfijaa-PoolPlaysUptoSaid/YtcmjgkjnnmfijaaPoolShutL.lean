/-
  PoolShut's plain law: who was shut out stays so, and is never picked.
-/
import Derived.Test.YtcmjgkjnnmfijaaPoolBoundsW
namespace Go.Proofs.Ytcmjgkjnnmfijaa
open Go Vm
set_option maxRecDepth 100000
set_option linter.unusedVariables false
/-- where a worker may have come to -/
def Shut (ws : List Wk) (i : Nat) (s : Int) : Prop := ∃ w, ws[i]? = some w ∧ (w.st = 5 ∨ w.st = 6) ∧ (w.st = s ∨ w.st = 6)
theorem Shut.set {ws : List Wk} {i j : Nat} {s : Int} {w w' : Wk} (S : Shut ws i s) (hj : ws[j]? = some w) (h : (w.st ≠ 5 ∧ w.st ≠ 6) ∨ w'.st = 6) : Shut (ws.set j w') i s := by
  obtain ⟨x, hx, h56, hs⟩ := S
  by_cases e : j = i
  · subst e
    rw [hj] at hx
    injection hx with hx
    subst hx
    have hjl := (List.getElem?_eq_some_iff.1 hj).1
    rcases h with h | h
    · omega
    · exact ⟨w', by rw [List.getElem?_set_self hjl], .inr h, .inr h⟩
  · exact ⟨x, by rw [List.getElem?_set_ne e]; exact hx, h56, hs⟩
theorem Shut.start {wk sl : Int} {ws : List Wk} {i : Nat} {s : Int} (S : Shut ws i s) (key : List UInt8) (slots : Int) : Shut (startS wk sl ws key slots).1 i s := by
  unfold startS
  split
  · exact S
  · split
    · exact S
    · obtain ⟨x, hx, h⟩ := S
      exact ⟨x, by rw [List.getElem?_append_left (List.getElem?_eq_some_iff.1 hx).1]; exact hx, h⟩
theorem Shut.hello {ws : List Wk} {i : Nat} {s : Int} (S : Shut ws i s) (n : Int) : Shut (helloS ws n).1 i s := by
  unfold helloS
  split
  · rename_i h
    obtain ⟨j, w, hn, hw, hst⟩ := find_some h
    show Shut (upN ws n _) i s
    rw [upN_eq hn]
    simp at hst
    exact S.set hw (.inl (by omega))
  · exact S
theorem Shut.send {ws : List Wk} {i : Nat} {s : Int} (S : Shut ws i s) (n : Int) : Shut (sendS ws n).1 i s := by
  unfold sendS
  split
  · rename_i h
    obtain ⟨j, w, hn, hw, hst⟩ := find_some h
    simp at hst
    split
    · exact S
    · show Shut (upN ws n _) i s
      rw [upN_eq hn]
      exact S.set hw (.inl (by omega))
  · exact S
theorem Shut.done {ws : List Wk} {i : Nat} {s : Int} (S : Shut ws i s) (n : Int) : Shut (doneS ws n).1 i s := by
  unfold doneS
  split
  · rename_i h
    obtain ⟨j, w, hn, hw, hst⟩ := find_some h
    simp at hst
    repeat' split
    all_goals
      show Shut (upN ws n _) i s
      rw [upN_eq hn]
      exact S.set hw (.inl (by omega))
  · exact S
theorem Shut.drain {ws : List Wk} {i : Nat} {s : Int} (S : Shut ws i s) (n : Int) : Shut (drainS ws n).1 i s := by
  unfold drainS
  split
  · rename_i h
    obtain ⟨j, w, hn, hw, hst⟩ := find_some h
    simp at hst
    repeat' split
    all_goals
      show Shut (upN ws n _) i s
      rw [upN_eq hn]
      exact S.set hw (.inl (by omega))
  · exact S
theorem Shut.poison {ws : List Wk} {i : Nat} {s : Int} (S : Shut ws i s) (n : Int) : Shut (endS ws n 5 [1, 2, 3, 4]).1 i s := by
  unfold endS
  split
  · rename_i h
    obtain ⟨j, w, hn, hw, hst⟩ := find_some h
    simp at hst
    show Shut (upN ws n _) i s
    rw [upN_eq hn]
    exact S.set hw (.inl (by omega))
  · exact S
theorem Shut.kill {ws : List Wk} {i : Nat} {s : Int} (S : Shut ws i s) (n : Int) : Shut (endS ws n 6 [1, 2, 3, 4, 5]).1 i s := by
  unfold endS
  split
  · rename_i h
    obtain ⟨j, w, hn, hw, hst⟩ := find_some h
    show Shut (upN ws n _) i s
    rw [upN_eq hn]
    exact S.set hw (.inr rfl)
  · exact S
theorem tickW_other {id : Int} {w : Wk} (h : w.st ≠ 2) : tickW id w = w := by
  unfold tickW
  rw [if_neg h]
theorem Shut.tick {ws : List Wk} {i : Nat} {s id : Int} (S : Shut ws i s) : Shut (ws.map (tickW id)) i s := by
  obtain ⟨x, hx, h56, hs⟩ := S
  exact ⟨x, by rw [List.getElem?_map, hx, Option.map_some, tickW_other (by omega)], h56, hs⟩
theorem Shut.asks {wk sl id : Int} {ws : List Wk} {i : Nat} {s : Int} (S : Shut ws i s) (o : Opv) : Shut (askS wk sl id ws o).1 i s :=
  asks_split (C := fun r => Shut r.1 i s) wk sl id ws o (fun _ => S.start _ _) (fun _ => S.hello _) (fun _ => S.send _) (fun _ => S.done _) (fun _ => S.drain _) (fun _ => S.poison _) (fun _ => S.kill _) (fun _ => S.tick) (fun _ => S) (fun _ => S) (fun _ => S) (fun _ => S)
theorem fold_best (f : Wk → Wk → Wk) (p : Wk → Prop) (hf : ∀ b w, f b w = b ∨ (f b w = w ∧ p w)) : ∀ (ws : List Wk) (b : Wk), ws.foldl f b = b ∨ (ws.foldl f b ∈ ws ∧ p (ws.foldl f b))
  | [], b => .inl rfl
  | w :: ws, b => by
    rw [List.foldl_cons]
    rcases fold_best f p hf ws (f b w) with h | ⟨h1, h2⟩
    · rw [h]
      rcases hf b w with e | ⟨e, hp⟩
      · exact .inl e
      · rw [e]; exact .inr ⟨List.mem_cons_self, hp⟩
    · exact .inr ⟨List.mem_cons_of_mem _ h1, h2⟩
theorem pick_best (key : List UInt8) (ws : List Wk) : pickB key ws = zeroW ∨ (pickB key ws ∈ ws ∧ canW key (pickB key ws)) :=
  fold_best (pickStep key) (canW key) (fun b w => by
    unfold pickStep
    split
    · rename_i h; exact .inr ⟨rfl, h.1⟩
    · exact .inl rfl) ws zeroW
theorem spare_best (ks : List (List UInt8)) (ws : List Wk) : spareB ks ws = zeroW ∨ (spareB ks ws ∈ ws ∧ freeW ks (spareB ks ws)) :=
  fold_best (spareStep ks) (freeW ks) (fun b w => by
    unfold spareStep
    split
    · rename_i h; exact .inr ⟨rfl, h.1⟩
    · exact .inl rfl) ws zeroW
theorem Inv.same {wk sl id : Int} {ws : List Wk} (I : Inv wk sl id ws) {x y : Wk} (hx : x ∈ ws) (hy : y ∈ ws) (e : x.n = y.n) : x = y := by
  obtain ⟨i, hi, e1⟩ := List.getElem_of_mem hx
  obtain ⟨j, hj, e2⟩ := List.getElem_of_mem hy
  have h1 := I.num i x (by rw [List.getElem?_eq_getElem hi, e1])
  have h2 := I.num j y (by rw [List.getElem?_eq_getElem hj, e2])
  have : i = j := by omega
  subst this
  rw [← e1, ← e2]
theorem Inv.pick {wk sl id : Int} {ws : List Wk} (I : Inv wk sl id ws) (key : List UInt8) {i : Nat} {s : Int} (S : Shut ws i s) : (pickB key ws).n ≠ (i : Int) + 1 := by
  intro e
  obtain ⟨x, hx, h56, hs⟩ := S
  rcases pick_best key ws with h | ⟨h1, h2⟩
  · rw [h] at e; have : (0 : Int) = (i : Int) + 1 := e; omega
  · have := I.same h1 (List.mem_of_getElem? hx) (by rw [e, I.num i x hx])
    rw [this] at h2
    have := h2.2
    omega
theorem Inv.spare {wk sl id : Int} {ws : List Wk} (I : Inv wk sl id ws) (ks : List (List UInt8)) {i : Nat} {s : Int} (S : Shut ws i s) : (spareB ks ws).n ≠ (i : Int) + 1 := by
  intro e
  obtain ⟨x, hx, h56, hs⟩ := S
  rcases spare_best ks ws with h | ⟨h1, h2⟩
  · rw [h] at e; have : (0 : Int) = (i : Int) + 1 := e; omega
  · have := I.same h1 (List.mem_of_getElem? hx) (by rw [e, I.num i x hx])
    rw [this] at h2
    have := h2.1
    omega
theorem start_other {wk sl : Int} {ws : List Wk} {key : List UInt8} {slots : Int} {i : Nat} (hi : i < ws.length) : (startS wk sl ws key slots).2.1 ≠ (i : Int) + 1 := by
  unfold startS
  split
  · show (0 : Int) ≠ _; omega
  · split
    · show (0 : Int) ≠ _; omega
    · show (ws.length : Int) + 1 ≠ _; omega
/-- what a call tells of who was shut out -/
theorem Inv.told {wk sl id : Int} {ws : List Wk} (I : Inv wk sl id ws) {i : Nat} {s : Int} (S : Shut ws i s) (o : Opv) (hd : o.d = 8 ∨ o.d = 9 ∨ o.d = 0) : (askS wk sl id ws o).2.n ≠ (i : Int) + 1 := by
  obtain ⟨x, hx, h56, hs⟩ := S
  have S : Shut ws i s := ⟨x, hx, h56, hs⟩
  exact asks_split (C := fun r => r.2.n ≠ (i : Int) + 1) wk sl id ws o (fun _ => start_other (List.getElem?_eq_some_iff.1 hx).1) (fun e => by omega) (fun e => by omega) (fun e => by omega) (fun e => by omega) (fun e => by omega) (fun e => by omega) (fun e => by omega) (fun _ => I.pick _ S) (fun _ => I.spare _ S) (fun e => by omega) (fun e => by omega)
theorem askS_key {wk sl id : Int} {ws : List Wk} (hk : keysOk ws) (o : Opv) : (askS wk sl id ws o).2.w.key.length = 32 :=
  asks_split (C := fun r => r.2.w.key.length = 32) wk sl id ws o (fun _ => zeroW_key) (fun _ => zeroW_key) (fun _ => zeroW_key) (fun _ => zeroW_key) (fun _ => zeroW_key) (fun _ => zeroW_key) (fun _ => zeroW_key) (fun _ => zeroW_key) (fun _ => zeroW_key) (fun _ => zeroW_key) (fun _ => look_key hk _) (fun _ => zeroW_key)
theorem find_at {ws : List Wk} {i : Nat} {w : Wk} (hw : ws[i]? = some w) (l : List Int) : findE ws ((i : Int) + 1) l = if w.st ∈ l then 0 else 261 := by
  have hil := (List.getElem?_eq_some_iff.1 hw).1
  unfold findE
  rw [if_neg (by omega), show ((i : Int) + 1).toNat - 1 = i by omega, List.getD_eq_getElem?_getD, hw]
  rfl
theorem look_at {ws : List Wk} {i : Nat} {w : Wk} (hw : ws[i]? = some w) (hst : 1 ≤ w.st ∧ w.st ≤ 6) : lookS ws ((i : Int) + 1) = (w, 0) := by
  unfold lookS
  have e : findE ws ((i : Int) + 1) [1, 2, 3, 4, 5, 6] = 0 := by rw [find_at hw, if_pos (by simp; omega)]
  rw [if_pos e, atN_eq rfl hw]
/-- where somebody is found -/
theorem look_ok {ws : List Wk} {n : Int} (h : (lookS ws n).2 = 0) : ∃ (i : Nat) (w : Wk), n = (i : Int) + 1 ∧ ws[i]? = some w ∧ lookS ws n = (w, 0) := by
  unfold lookS at h ⊢
  split
  · rename_i hf
    obtain ⟨i, w, hn, hw, _⟩ := find_some hf
    exact ⟨i, w, hn, hw, by rw [atN_eq hn hw]⟩
  · rename_i hf
    rw [if_neg hf] at h
    exact absurd h hf
theorem send_shut {ws : List Wk} {i : Nat} {s : Int} (S : Shut ws i s) : (sendS ws ((i : Int) + 1)).2 = 261 := by
  obtain ⟨x, hx, h56, hs⟩ := S
  unfold sendS
  have e : findE ws ((i : Int) + 1) [2, 3] = 261 := by rw [find_at hx, if_neg (by simp; omega)]
  rw [if_neg (by rw [e]; decide)]
  exact e
end Go.Proofs.Ytcmjgkjnnmfijaa
