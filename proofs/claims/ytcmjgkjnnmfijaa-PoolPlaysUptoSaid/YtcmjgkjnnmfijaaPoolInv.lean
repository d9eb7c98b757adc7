/-
  What stays so of a pool's workers behind every call.
-/
import Derived.Test.YtcmjgkjnnmfijaaPoolAsks
namespace Go.Proofs.Ytcmjgkjnnmfijaa
open Go Vm
set_option maxRecDepth 100000
set_option linter.unusedVariables false
theorem find_some {ws : List Wk} {n : Int} {l : List Int} (h : findE ws n l = 0) : ∃ (i : Nat) (w : Wk), n = (i : Int) + 1 ∧ ws[i]? = some w ∧ w.st ∈ l := by
  unfold findE at h
  split at h
  · simp at h
  · rename_i hb
    split at h
    · rename_i hin
      obtain ⟨i, hi⟩ : ∃ i : Nat, n = (i : Int) + 1 := ⟨(n - 1).toNat, by omega⟩
      have hil : i < ws.length := by omega
      refine ⟨i, ws[i], hi, List.getElem?_eq_getElem hil, ?_⟩
      rw [show n.toNat - 1 = i by omega, List.getD_eq_getElem?_getD, List.getElem?_eq_getElem hil] at hin
      exact hin
    · simp at h
theorem mem_set {ws : List Wk} {i : Nat} {w' x : Wk} (h : x ∈ ws.set i w') : x ∈ ws ∨ x = w' := List.mem_or_eq_of_mem_set h
theorem countP_set_le (f : Wk → Bool) : ∀ (ws : List Wk) (i : Nat) (w w' : Wk), ws[i]? = some w → (f w' = true → f w = true) → (ws.set i w').countP f ≤ ws.countP f
  | [], i, w, w', h, _ => by simp at h
  | x :: ws, 0, w, w', h, hf => by
    simp at h
    subst h
    rw [List.set_cons_zero, List.countP_cons, List.countP_cons]
    cases h1 : f w' <;> cases h2 : f x <;> simp_all
  | x :: ws, i + 1, w, w', h, hf => by
    rw [List.set_cons_succ, List.countP_cons, List.countP_cons]
    have := countP_set_le f ws i w w' (by simpa using h) hf
    omega
structure OkW (sl id : Int) (w : Wk) : Prop where
  st : 1 ≤ w.st ∧ w.st ≤ 6
  sl : 1 ≤ w.sl ∧ w.sl ≤ sl
  busy : w.st = 3 ∨ w.st = 4 → 1 ≤ w.ld ∧ w.ld ≤ w.sl
  calm : ¬ (w.st = 3 ∨ w.st = 4) → w.ld = 0
  idle : 0 ≤ w.id ∧ w.id < id
  still : w.st ≠ 2 → w.id = 0
theorem Inv.ok {wk sl id : Int} {ws : List Wk} (I : Inv wk sl id ws) {w : Wk} (h : w ∈ ws) : OkW sl id w := ⟨I.st w h, I.sl w h, I.busy w h, I.calm w h, I.idle w h, I.still w h⟩
theorem Inv.of {wk sl id : Int} {ws : List Wk} (hl : okLim wk sl id) (hn : ∀ (i : Nat) (w : Wk), ws[i]? = some w → w.n = (i : Int) + 1) (hw : ∀ w ∈ ws, OkW sl id w) (hc : (ws.countP isLive : Int) ≤ wk) : Inv wk sl id ws :=
  ⟨hl, hn, fun w h => (hw w h).st, fun w h => (hw w h).sl, fun w h => (hw w h).busy, fun w h => (hw w h).calm, fun w h => (hw w h).idle, fun w h => (hw w h).still, hc⟩
theorem Inv.set {wk sl id : Int} {ws : List Wk} (I : Inv wk sl id ws) {i : Nat} {w w' : Wk} (hw : ws[i]? = some w) (hn : w'.n = w.n) (ho : OkW sl id w') (hl : isLive w' = true → isLive w = true) : Inv wk sl id (ws.set i w') := by
  refine Inv.of I.lim (fun j x hx => ?_) (fun x hx => ?_) ?_
  · rw [List.getElem?_set] at hx
    split at hx
    · rename_i e
      subst e
      split at hx
      · simp at hx
        rw [← hx, hn]
        exact I.num i w hw
      · simp at hx
    · exact I.num j x hx
  · rcases mem_set hx with h | rfl
    · exact I.ok h
    · exact ho
  · have := countP_set_le isLive ws i w w' hw hl
    have := I.live
    omega
theorem live_iff (w : Wk) : isLive w = true ↔ w.st = 1 ∨ w.st = 2 ∨ w.st = 3 ∨ w.st = 4 := by
  unfold isLive
  simp
theorem dead_ok {sl id : Int} {w : Wk} (h : OkW sl id w) (hid : 1 ≤ id) (s : Int) (hs : s = 5 ∨ s = 6) : OkW sl id { w with st := s, ld := 0, id := 0 } :=
  ⟨by show 1 ≤ s ∧ s ≤ 6; omega, h.sl, fun e => by have : s = 3 ∨ s = 4 := e; omega, fun _ => rfl, by show (0 : Int) ≤ 0 ∧ 0 < id; omega, fun _ => rfl⟩
theorem Inv.hello {wk sl id : Int} {ws : List Wk} (I : Inv wk sl id ws) (n : Int) : Inv wk sl id (helloS ws n).1 := by
  unfold helloS
  split
  · rename_i h
    obtain ⟨i, w, hn, hw, hst⟩ := find_some h
    show Inv wk sl id (upN ws n _)
    rw [upN_eq hn, atN_eq hn hw]
    have ho := I.ok (List.mem_of_getElem? hw)
    have hl := I.lim
    unfold okLim at hl
    refine I.set hw rfl ⟨by show 1 ≤ (2 : Int) ∧ (2 : Int) ≤ 6; omega, ho.sl, fun e => by have : (2 : Int) = 3 ∨ (2 : Int) = 4 := e; omega, fun _ => rfl, by show (0 : Int) ≤ 0 ∧ 0 < id; omega, fun _ => rfl⟩ (fun _ => by rw [live_iff]; simp at hst; simp [hst])
  · exact I
theorem Inv.send {wk sl id : Int} {ws : List Wk} (I : Inv wk sl id ws) (n : Int) : Inv wk sl id (sendS ws n).1 := by
  unfold sendS
  split
  · rename_i h
    obtain ⟨i, w, hn, hw, hst⟩ := find_some h
    rw [atN_eq hn hw]
    split
    · exact I
    · rename_i hr
      show Inv wk sl id (upN ws n _)
      rw [upN_eq hn]
      have ho := I.ok (List.mem_of_getElem? hw)
      have hb := I.get hw
      have hl := I.lim
      unfold okLim at hl
      refine I.set hw rfl ⟨by show 1 ≤ (3 : Int) ∧ (3 : Int) ≤ 6; omega, ho.sl, fun e => by show 1 ≤ w.ld + 1 ∧ w.ld + 1 ≤ w.sl; omega, fun e => absurd (Or.inl rfl) e, by show (0 : Int) ≤ 0 ∧ 0 < id; omega, fun _ => rfl⟩ (fun _ => by rw [live_iff]; simp at hst; rcases hst with e | e <;> simp [e])
  · exact I
theorem Inv.done {wk sl id : Int} {ws : List Wk} (I : Inv wk sl id ws) (n : Int) : Inv wk sl id (doneS ws n).1 := by
  unfold doneS
  split
  · rename_i h
    obtain ⟨i, w, hn, hw, hst⟩ := find_some h
    rw [atN_eq hn hw]
    have ho := I.ok (List.mem_of_getElem? hw)
    have hl := I.lim
    unfold okLim at hl
    have hst' : w.st = 3 ∨ w.st = 4 := by simpa using hst
    have hbz := ho.busy hst'
    have hlive : isLive w = true := by rw [live_iff]; omega
    split
    · rename_i hm
      show Inv wk sl id (upN ws n _)
      rw [upN_eq hn]
      exact I.set hw rfl ⟨ho.st, ho.sl, fun e => by show 1 ≤ w.ld - 1 ∧ w.ld - 1 ≤ w.sl; omega, fun e => absurd hst' e, ho.idle, ho.still⟩ (fun _ => hlive)
    · split
      · show Inv wk sl id (upN ws n _)
        rw [upN_eq hn]
        exact I.set hw rfl (dead_ok ho (by omega) 6 (.inr rfl)) (fun _ => hlive)
      · show Inv wk sl id (upN ws n _)
        rw [upN_eq hn]
        exact I.set hw rfl ⟨by show 1 ≤ (2 : Int) ∧ (2 : Int) ≤ 6; omega, ho.sl, fun e => by have : (2 : Int) = 3 ∨ (2 : Int) = 4 := e; omega, fun _ => rfl, by show (0 : Int) ≤ 0 ∧ 0 < id; omega, fun _ => rfl⟩ (fun _ => hlive)
  · exact I
theorem Inv.drain {wk sl id : Int} {ws : List Wk} (I : Inv wk sl id ws) (n : Int) : Inv wk sl id (drainS ws n).1 := by
  unfold drainS
  split
  · rename_i h
    obtain ⟨i, w, hn, hw, hst⟩ := find_some h
    rw [atN_eq hn hw]
    have ho := I.ok (List.mem_of_getElem? hw)
    have hl := I.lim
    unfold okLim at hl
    have hst' : w.st = 1 ∨ w.st = 2 ∨ w.st = 3 := by simpa using hst
    have hlive : isLive w = true := by rw [live_iff]; omega
    split
    · rename_i h3
      show Inv wk sl id (upN ws n _)
      rw [upN_eq hn]
      exact I.set hw rfl ⟨by show 1 ≤ (4 : Int) ∧ (4 : Int) ≤ 6; omega, ho.sl, fun e => ho.busy (.inl h3), fun e => absurd (Or.inr rfl) e, by show (0 : Int) ≤ 0 ∧ 0 < id; omega, fun _ => rfl⟩ (fun _ => hlive)
    · show Inv wk sl id (upN ws n _)
      rw [upN_eq hn]
      exact I.set hw rfl (dead_ok ho (by omega) 6 (.inr rfl)) (fun _ => hlive)
  · exact I
theorem Inv.ended {wk sl id : Int} {ws : List Wk} (I : Inv wk sl id ws) (n s : Int) (l : List Int) (hs : s = 5 ∨ s = 6) : Inv wk sl id (endS ws n s l).1 := by
  unfold endS
  split
  · rename_i h
    obtain ⟨i, w, hn, hw, hst⟩ := find_some h
    show Inv wk sl id (upN ws n _)
    rw [upN_eq hn, atN_eq hn hw]
    have ho := I.ok (List.mem_of_getElem? hw)
    have hl := I.lim
    unfold okLim at hl
    refine I.set hw rfl (dead_ok ho (by omega) s hs) (fun e => ?_)
    rw [live_iff] at e
    have e' : s = 1 ∨ s = 2 ∨ s = 3 ∨ s = 4 := e
    omega
  · exact I
theorem tick_live (id : Int) (w : Wk) : isLive (tickW id w) = true → isLive w = true := by
  unfold tickW
  split
  · rename_i h
    intro _
    rw [live_iff]
    omega
  · exact fun h => h
theorem tickW_n (id : Int) (w : Wk) : (tickW id w).n = w.n := by
  unfold tickW
  split
  · split <;> rfl
  · rfl
theorem tick_ok {sl id : Int} {w : Wk} (h : OkW sl id w) (hid : 1 ≤ id) : OkW sl id (tickW id w) := by
  unfold tickW
  split
  · rename_i h2
    split
    · exact dead_ok h hid 6 (.inr rfl)
    · rename_i hm
      have := h.idle
      exact ⟨h.st, h.sl, h.busy, h.calm, by show 0 ≤ w.id + 1 ∧ w.id + 1 < id; omega, fun e => absurd h2 e⟩
  · exact h
theorem Inv.tick {wk sl id : Int} {ws : List Wk} (I : Inv wk sl id ws) : Inv wk sl id (ws.map (tickW id)) := by
  have hl := I.lim
  unfold okLim at hl
  refine Inv.of I.lim (fun i x hx => ?_) (fun x hx => ?_) ?_
  · rw [List.getElem?_map, Option.map_eq_some_iff] at hx
    obtain ⟨w, hw, rfl⟩ := hx
    rw [tickW_n]
    exact I.num i w hw
  · obtain ⟨w, hw, rfl⟩ := List.mem_map.1 hx
    exact tick_ok (I.ok hw) (by omega)
  · have h1 : (ws.map (tickW id)).countP isLive ≤ ws.countP isLive := by
      rw [List.countP_map]
      exact List.countP_mono_left (fun w _ h => tick_live id w h)
    have := I.live
    omega
theorem Inv.start {wk sl id : Int} {ws : List Wk} (I : Inv wk sl id ws) (key : List UInt8) (slots : Int) : Inv wk sl id (startS wk sl ws key slots).1 := by
  unfold startS
  split
  · exact I
  · rename_i hbad
    split
    · exact I
    · rename_i hfull
      have hl := I.lim
      unfold okLim at hl
      refine Inv.of I.lim (fun i x hx => ?_) (fun x hx => ?_) ?_
      · by_cases hi : i < ws.length
        · rw [List.getElem?_append_left hi] at hx
          exact I.num i x hx
        · rw [List.getElem?_append_right (by omega)] at hx
          have hi2 := (List.getElem?_eq_some_iff.1 hx).1
          simp only [List.length_singleton] at hi2
          have : i = ws.length := by omega
          subst this
          simp at hx
          rw [← hx]
          rfl
      · rcases List.mem_append.1 hx with h | h
        · exact I.ok h
        · obtain rfl := List.mem_singleton.1 h
          exact ⟨by show 1 ≤ (1 : Int) ∧ (1 : Int) ≤ 6; omega, by show 1 ≤ slots ∧ slots ≤ sl; omega, fun e => by have : (1 : Int) = 3 ∨ (1 : Int) = 4 := e; omega, fun _ => rfl, by show (0 : Int) ≤ 0 ∧ 0 < id; omega, fun _ => rfl⟩
      · show ((ws ++ [newW ws key slots]).countP isLive : Int) ≤ wk
        rw [List.countP_append]
        have : [newW ws key slots].countP isLive ≤ 1 := List.countP_le_length
        omega
theorem asks_split {C : List Wk × Told → Prop} (wk sl id : Int) (ws : List Wk) (o : Opv)
    (h0 : o.d = 0 → C ((startS wk sl ws (kd o.k) o.s).1, ⟨(startS wk sl ws (kd o.k) o.s).2.1, false, [], zeroW, (startS wk sl ws (kd o.k) o.s).2.2⟩))
    (h1 : o.d = 1 → C ((helloS ws o.n).1, ⟨0, false, [], zeroW, (helloS ws o.n).2⟩))
    (h2 : o.d = 2 → C ((sendS ws o.n).1, ⟨0, false, [], zeroW, (sendS ws o.n).2⟩))
    (h3 : o.d = 3 → C ((doneS ws o.n).1, ⟨0, false, [], zeroW, (doneS ws o.n).2⟩))
    (h4 : o.d = 4 → C ((drainS ws o.n).1, ⟨0, false, [], zeroW, (drainS ws o.n).2⟩))
    (h5 : o.d = 5 → C ((endS ws o.n 5 [1, 2, 3, 4]).1, ⟨(endS ws o.n 5 [1, 2, 3, 4]).2.1, false, [], zeroW, (endS ws o.n 5 [1, 2, 3, 4]).2.2⟩))
    (h6 : o.d = 6 → C ((endS ws o.n 6 [1, 2, 3, 4, 5]).1, ⟨(endS ws o.n 6 [1, 2, 3, 4, 5]).2.1, false, [], zeroW, (endS ws o.n 6 [1, 2, 3, 4, 5]).2.2⟩))
    (h7 : o.d = 7 → C (ws.map (tickW id), ⟨0, false, tickOut id ws, zeroW, 0⟩))
    (h8 : o.d = 8 → C (ws, ⟨(pickB (kd o.k) ws).n, decide (0 < (pickB (kd o.k) ws).n), [], zeroW, 0⟩))
    (h9 : o.d = 9 → C (ws, ⟨(spareB (o.ks.map kd) ws).n, decide (0 < (spareB (o.ks.map kd) ws).n), [], zeroW, 0⟩))
    (h10 : o.d = 10 → C (ws, ⟨0, false, [], (lookS ws o.n).1, (lookS ws o.n).2⟩))
    (h11 : ¬ (0 ≤ o.d ∧ o.d ≤ 10) → C (ws, ⟨0, false, [], zeroW, 0⟩)) : C (askS wk sl id ws o) := by
  by_cases e0 : o.d = 0
  · simpa [askS, e0] using h0 e0
  by_cases e1 : o.d = 1
  · simpa [askS, e1] using h1 e1
  by_cases e2 : o.d = 2
  · simpa [askS, e2] using h2 e2
  by_cases e3 : o.d = 3
  · simpa [askS, e3] using h3 e3
  by_cases e4 : o.d = 4
  · simpa [askS, e4] using h4 e4
  by_cases e5 : o.d = 5
  · simpa [askS, e5] using h5 e5
  by_cases e6 : o.d = 6
  · simpa [askS, e6] using h6 e6
  by_cases e7 : o.d = 7
  · simpa [askS, e7] using h7 e7
  by_cases e8 : o.d = 8
  · simpa [askS, e8] using h8 e8
  by_cases e9 : o.d = 9
  · simpa [askS, e9] using h9 e9
  by_cases e10 : o.d = 10
  · simpa [askS, e10] using h10 e10
  · simpa [askS, e0, e1, e2, e3, e4, e5, e6, e7, e8, e9, e10] using h11 (by omega)
theorem Inv.asks {wk sl id : Int} {ws : List Wk} (I : Inv wk sl id ws) (o : Opv) : Inv wk sl id (askS wk sl id ws o).1 :=
  asks_split (C := fun r => Inv wk sl id r.1) wk sl id ws o (fun _ => I.start _ _) (fun _ => I.hello _) (fun _ => I.send _) (fun _ => I.done _) (fun _ => I.drain _) (fun _ => I.ended _ _ _ (.inl rfl)) (fun _ => I.ended _ _ _ (.inr rfl)) (fun _ => I.tick) (fun _ => I) (fun _ => I) (fun _ => I) (fun _ => I)
theorem Inv.nil {wk sl id : Int} (h : okLim wk sl id) : Inv wk sl id [] := by
  have h' := h
  unfold okLim at h'
  exact Inv.of h (fun i w hw => by simp at hw) (fun w hw => by cases hw) (by simp; omega)
theorem upN_length (ws : List Wk) (n : Int) (w : Wk) : (upN ws n w).length = ws.length := by unfold upN; rw [List.length_set]
theorem asks_length (wk sl id : Int) (ws : List Wk) (o : Opv) : (askS wk sl id ws o).1.length ≤ ws.length + 1 ∧ ws.length ≤ (askS wk sl id ws o).1.length := by
  refine asks_split (C := fun r => r.1.length ≤ ws.length + 1 ∧ ws.length ≤ r.1.length) wk sl id ws o (fun _ => ?_) (fun _ => ?_) (fun _ => ?_) (fun _ => ?_) (fun _ => ?_) (fun _ => ?_) (fun _ => ?_) (fun _ => ?_) (fun _ => ?_) (fun _ => ?_) (fun _ => ?_) (fun _ => ?_)
  · unfold startS; repeat' split
    all_goals simp
  · unfold helloS; repeat' split
    all_goals simp [upN_length]
  · unfold sendS; repeat' split
    all_goals simp [upN_length]
  · unfold doneS; repeat' split
    all_goals simp [upN_length]
  · unfold drainS; repeat' split
    all_goals simp [upN_length]
  · unfold endS; repeat' split
    all_goals simp [upN_length]
  · unfold endS; repeat' split
    all_goals simp [upN_length]
  all_goals simp
/-- behind calls -/
def livedS (wk sl id : Int) (ws : List Wk) (os : List Opv) : List Wk := os.foldl (fun ws o => (askS wk sl id ws o).1) ws
theorem Inv.lived {wk sl id : Int} {ws : List Wk} (I : Inv wk sl id ws) (os : List Opv) : Inv wk sl id (livedS wk sl id ws os) := by
  induction os generalizing ws with
  | nil => exact I
  | cons o os ih => exact ih (I.asks o)
theorem lived_length (wk sl id : Int) (ws : List Wk) (os : List Opv) : (livedS wk sl id ws os).length ≤ ws.length + os.length := by
  induction os generalizing ws with
  | nil => simp [livedS]
  | cons o os ih =>
    have h1 := (asks_length wk sl id ws o).1
    have h2 := ih (askS wk sl id ws o).1
    show (livedS wk sl id (askS wk sl id ws o).1 os).length ≤ _
    simp only [List.length_cons]
    omega
end Go.Proofs.Ytcmjgkjnnmfijaa
