/-
  The function that all laws here call first answers true, in whatever heap that has the table.
-/
import Derived.Test.YtdielfpgekenkaaGreatDoorJ20
import Derived.Test.YtdielfpgekenkaaGreatDoorJ22
namespace Go.Proofs.YtdielfpgekenkaaGreatDoor.Sx
open Go Vm
set_option maxRecDepth 100000
set_option linter.unusedVariables false
theorem okL1 : ∀ m ∈ L1, MemoOk cx m := by
  intro m hm
  simp only [L1, List.not_mem_nil] at hm
theorem ok1 : MemoOk cx M1 := memo_of (memo_cx cx_ok) (memo_fn cx_fnok okL1) rfl rfl says1
theorem okL2 : ∀ m ∈ L2, MemoOk cx m := by
  intro m hm
  simp only [L2, List.mem_cons, List.not_mem_nil, or_false] at hm
  rcases hm with rfl
  exact ok1
theorem ok2 : MemoOk cx M2 := memo_of (memo_cx cx_ok) (memo_fn cx_fnok okL2) rfl rfl says2
theorem okL3 : ∀ m ∈ L3, MemoOk cx m := by
  intro m hm
  simp only [L3, List.mem_cons, List.not_mem_nil, or_false] at hm
  rcases hm with rfl | rfl
  · exact ok1
  · exact ok2
theorem ok3 : MemoOk cx M3 := memo_of (memo_cx cx_ok) (memo_fn cx_fnok okL3) rfl rfl says3
theorem okL4 : ∀ m ∈ L4, MemoOk cx m := by
  intro m hm
  simp only [L4, List.mem_cons, List.not_mem_nil, or_false] at hm
  rcases hm with rfl | rfl
  · exact ok1
  · exact ok3
theorem ok4 : MemoOk cx M4 := memo_of (memo_cx cx_ok) (memo_fn cx_fnok okL4) rfl rfl says4
theorem okL5 : ∀ m ∈ L5, MemoOk cx m := by
  intro m hm
  simp only [L5, List.mem_cons, List.not_mem_nil, or_false] at hm
  rcases hm with rfl | rfl | rfl | rfl
  · exact ok1
  · exact ok2
  · exact ok3
  · exact ok4
theorem ok5 : MemoOk cx M5 := memo_of (memo_cx cx_ok) (memo_fn cx_fnok okL5) rfl rfl says5
theorem okL6 : ∀ m ∈ L6, MemoOk cx m := by
  intro m hm
  simp only [L6, List.mem_cons, List.not_mem_nil, or_false] at hm
  rcases hm with rfl | rfl | rfl
  · exact ok1
  · exact ok3
  · exact ok5
theorem ok6 : MemoOk cx M6 := memo_of (memo_cx cx_ok) (memo_fn cx_fnok okL6) rfl rfl says6
theorem okL7 : ∀ m ∈ L7, MemoOk cx m := by
  intro m hm
  simp only [L7, List.mem_cons, List.not_mem_nil, or_false] at hm
  rcases hm with rfl | rfl | rfl
  · exact ok1
  · exact ok3
  · exact ok5
theorem ok7 : MemoOk cx M7 := memo_of (memo_cx cx_ok) (memo_fn cx_fnok okL7) rfl rfl says7
theorem okL8 : ∀ m ∈ L8, MemoOk cx m := by
  intro m hm
  simp only [L8, List.mem_cons, List.not_mem_nil, or_false] at hm
  rcases hm with rfl | rfl | rfl | rfl | rfl | rfl | rfl
  · exact ok1
  · exact ok2
  · exact ok3
  · exact ok4
  · exact ok5
  · exact ok6
  · exact ok7
theorem ok8 : MemoOk cx M8 := memo_of (memo_cx cx_ok) (memo_fn cx_fnok okL8) rfl rfl says8
theorem okL9 : ∀ m ∈ L9, MemoOk cx m := by
  intro m hm
  simp only [L9, List.mem_cons, List.not_mem_nil, or_false] at hm
  rcases hm with rfl | rfl | rfl | rfl | rfl | rfl | rfl | rfl
  · exact ok1
  · exact ok2
  · exact ok3
  · exact ok4
  · exact ok5
  · exact ok6
  · exact ok7
  · exact ok8
theorem ok9 : MemoOk cx M9 := memo_of (memo_cx cx_ok) (memo_fn cx_fnok okL9) rfl rfl says9
theorem okL10 : ∀ m ∈ L10, MemoOk cx m := by
  intro m hm
  simp only [L10, List.mem_cons, List.not_mem_nil, or_false] at hm
  rcases hm with rfl | rfl | rfl | rfl | rfl | rfl | rfl | rfl | rfl
  · exact ok1
  · exact ok2
  · exact ok3
  · exact ok4
  · exact ok5
  · exact ok6
  · exact ok7
  · exact ok8
  · exact ok9
theorem ok10 : MemoOk cx M10 := memo_of (memo_cx cx_ok) (memo_fn cx_fnok okL10) rfl rfl says10
theorem okL11 : ∀ m ∈ L11, MemoOk cx m := by
  intro m hm
  simp only [L11, List.mem_cons, List.not_mem_nil, or_false] at hm
  rcases hm with rfl | rfl | rfl | rfl | rfl | rfl | rfl | rfl | rfl | rfl
  · exact ok1
  · exact ok2
  · exact ok3
  · exact ok4
  · exact ok5
  · exact ok6
  · exact ok7
  · exact ok8
  · exact ok9
  · exact ok10
theorem ok11 : MemoOk cx M11 := memo_of (memo_cx cx_ok) (memo_fn cx_fnok okL11) rfl rfl says11
theorem okL12 : ∀ m ∈ L12, MemoOk cx m := by
  intro m hm
  simp only [L12, List.mem_cons, List.not_mem_nil, or_false] at hm
  rcases hm with rfl | rfl | rfl | rfl | rfl | rfl | rfl | rfl | rfl | rfl | rfl
  · exact ok1
  · exact ok2
  · exact ok3
  · exact ok4
  · exact ok5
  · exact ok6
  · exact ok7
  · exact ok8
  · exact ok9
  · exact ok10
  · exact ok11
theorem ok12 : MemoOk cx M12 := memo_of (memo_cx cx_ok) (memo_fn cx_fnok okL12) rfl rfl says12
theorem okL13 : ∀ m ∈ L13, MemoOk cx m := by
  intro m hm
  simp only [L13, List.mem_cons, List.not_mem_nil, or_false] at hm
  rcases hm with rfl | rfl | rfl | rfl | rfl | rfl | rfl | rfl | rfl | rfl | rfl | rfl
  · exact ok1
  · exact ok2
  · exact ok3
  · exact ok4
  · exact ok5
  · exact ok6
  · exact ok7
  · exact ok8
  · exact ok9
  · exact ok10
  · exact ok11
  · exact ok12
theorem ok13 : MemoOk cx M13 := memo_of (memo_cx cx_ok) (memo_fn cx_fnok okL13) rfl rfl says13
theorem okL14 : ∀ m ∈ L14, MemoOk cx m := by
  intro m hm
  simp only [L14, List.mem_cons, List.not_mem_nil, or_false] at hm
  rcases hm with rfl | rfl | rfl | rfl | rfl | rfl | rfl | rfl | rfl | rfl | rfl | rfl | rfl
  · exact ok1
  · exact ok2
  · exact ok3
  · exact ok4
  · exact ok5
  · exact ok6
  · exact ok7
  · exact ok8
  · exact ok9
  · exact ok10
  · exact ok11
  · exact ok12
  · exact ok13
theorem ok14 : MemoOk cx M14 := memo_of (memo_cx cx_ok) (memo_fn cx_fnok okL14) rfl rfl says14
theorem okLF : ∀ m ∈ LF, MemoOk cx m := by
  intro m hm
  simp only [LF, List.mem_cons, List.not_mem_nil, or_false] at hm
  rcases hm with rfl | rfl | rfl | rfl | rfl | rfl | rfl | rfl | rfl | rfl | rfl | rfl | rfl | rfl
  · exact ok1
  · exact ok2
  · exact ok3
  · exact ok4
  · exact ok5
  · exact ok6
  · exact ok7
  · exact ok8
  · exact ok9
  · exact ok10
  · exact ok11
  · exact ok12
  · exact ok13
  · exact ok14
def saysTrue : Option (SV × St) → Bool
  | some (.b true, st) => Nat.ble 9 st.low
  | _ => false
set_option maxHeartbeats 0 in
theorem awake_run : saysTrue ((cx.memo LF).run 400 13 [] SF0) = true := by kernel_rfl
def σ0 : Env := fun i => if i < 9 then some (i, 0) else none
theorem hp0 (i : Nat) (o : SO) (h : SF0.hp.get i = some o) : i = 1 ∧ o = .tab kRow := by
  have e : SF0.hp = (Tr.node (Tr.node .nil (some (.tab kRow)) .nil) none .nil) := rfl
  rw [e] at h
  clear e
  cases i with
  | zero => simp [get_zero] at h
  | succ i_ =>
    rw [get_succ] at h
    split at h
    · rename_i hp
      obtain ⟨iq, hn⟩ : ∃ iq, iq = i_ / 2 := ⟨_, rfl⟩
      rw [← hn] at h
      cases iq with
      | zero =>
        simp only [get_zero, Option.some.injEq] at h
        exact ⟨by omega, h.symm⟩
      | succ iq_ => rw [get_succ] at h; split at h <;> simp [get_nil] at h
    · simp [get_nil] at h

theorem rep0 {h : Heap} (hh : 9 ≤ h.size) (T : Go.Proofs.YtdielfpgekenkaaGreatDoor.Tab h) : Rep 9 SF0 σ0 h where
  glob := fun g hg => ⟨0, by simp [σ0, hg]⟩
  has := fun i q hq hi => by
    have : ¬ i < 9 := by omega
    simp [σ0, this] at hq
  ngn := Nat.le_refl _
  dom := fun i q hq => by
    unfold σ0 at hq
    split at hq
    · cases hq; exact ⟨by assumption, by simp only; omega⟩
    · cases hq
  obj := fun i o ho => by
    obtain ⟨rfl, rfl⟩ := hp0 i o ho
    refine ⟨(1, 0), rfl, Sha.K.map u32v, ?_⟩
    have h0 := T 0 _ rfl
    unfold Vm.rd at h0
    cases hb : h[(1 : Nat)]? with
    | none => simp [hb] at h0
    | some ob =>
      cases ob with
      | cells arr t fz =>
        refine ⟨arr, t, fz, kRow_den _, rfl, fun j v hj => ?_⟩
        have := T j v hj
        unfold Vm.rd at this
        simpa [hb] using this
      | _ => simp [hb] at h0
  inj := fun i j o o' q r hi hj _ _ _ _ _ => by
    rw [(hp0 i o hi).1, (hp0 j o' hj).1]
theorem awake_fx {h : Heap} (hh : 9 ≤ h.size) (T : Go.Proofs.YtdielfpgekenkaaGreatDoor.Tab h) : Fx Tryz.prog 13 #[] h fun v h' => v = .bool true ∧ ExtH h h' := by
  have hr := awake_run
  cases e : (cx.memo LF).run 400 13 [] SF0 with
  | none => rw [e] at hr; cases hr
  | some x =>
    obtain ⟨s, st'⟩ := x
    rw [e] at hr
    have hs : s = .b true ∧ 9 ≤ st'.low := by
      unfold saysTrue at hr
      split at hr
      · rename_i h1; cases h1; exact ⟨rfl, Nat.le_of_ble_eq_true hr⟩
      · cases hr
    obtain ⟨rfl, hlow⟩ := hs
    refine (run_ok (memo_cx cx_ok) (memo_fn cx_fnok okLF) 400 _ [] _ _ _ e σ0 h [] (rep0 hh T) rfl).mono ?_
    rintro v h' ⟨σ', hv, hG⟩
    refine ⟨by simpa [den] using hv.symm, hG.steps.only fun i q hi => ?_⟩
    have h1 : i < 9 := by
      unfold σ0 at hi
      split at hi
      · assumption
      · cases hi
    omega
end Go.Proofs.YtdielfpgekenkaaGreatDoor.Sx
