/-
  The context of this program is sound.
-/
import Derived.Test.YtdielfpgekenkaaGreatDoorJ17
import Derived.Test.YtdielfpgekenkaaGreatDoorJ19
namespace Go.Proofs.YtdielfpgekenkaaGreatDoor.Sx
open Go Vm
set_option linter.unusedSimpArgs false
set_option linter.unusedVariables false
set_option maxRecDepth 100000
theorem funcs_len : decide (Tryz.prog.funcs.toList.length < 2 ^ 12) = true := by kernel_rfl
theorem types_len : decide (Tryz.prog.types.toList.length < 2 ^ 12) = true := by kernel_rfl
theorem cx_ty (t : Nat) (i : TypeInfo) (h : cx.ty.get t = some i) : cx.P.info? t = some i := by
  have h1 : (ofList 12 Tryz.prog.types.toList).get t = some i := h
  rw [ofList_get 12 _ (of_decide_eq_true types_len), Array.getElem?_toList] at h1
  show Tryz.prog.toTables.info? t = some i
  unfold Tables.info?
  rw [if_pos (Array.getElem?_eq_some_iff.1 h1).1]
  exact h1
theorem cx_fn (f : Nat) : cx.fn.get f = Tryz.prog.funcs[f]? := by
  show (ofList 12 Tryz.prog.funcs.toList).get f = Tryz.prog.funcs[f]?
  rw [ofList_get 12 _ (of_decide_eq_true funcs_len), Array.getElem?_toList]
theorem cx_info (t : Nat) : cx.info t = cx.P.info? t := by
  unfold Cx.info
  cases h : cx.ty.get t with
  | none => rfl
  | some i => exact (cx_ty t i h).symm
theorem cx_und (t : Nat) : cx.und t = cx.P.underlying t := by
  unfold Cx.und Program.underlying
  rw [cx_info]
  cases h : cx.P.info? t with
  | none => rfl
  | some i =>
    obtain ⟨d, s1, s2, s3, s4, s5, s6, s7, s8, s9⟩ := i
    cases d <;> simp only
    rename_i nm u
    rw [cx_info]
    cases cx.P.info? u <;> rfl
noncomputable def fldsB (t : Nat) : Bool :=
  match cx.und t with
  | some (.struct fs) => fs.toList.all fun f => (cx.ty.get f.type).isSome
  | _ => true
theorem flds_all : ((List.range Tryz.prog.types.toList.length).all fldsB) = true := by kernel_rfl
theorem cx_flds (t : Nat) (i : TypeInfo) (hi : cx.ty.get t = some i) (fs : Array Field) (h : cx.P.underlying t = some (.struct fs)) (f : Field) (hf : f ∈ fs.toList) : ∃ i, cx.P.info? f.type = some i := by
  have ht : t < Tryz.prog.types.toList.length := by
    have h1 : (ofList 12 Tryz.prog.types.toList).get t = some i := hi
    rw [ofList_get 12 _ (of_decide_eq_true types_len)] at h1
    exact (List.getElem?_eq_some_iff.1 h1).1
  have := List.all_eq_true.1 flds_all t (List.mem_range.2 ht)
  unfold fldsB at this
  rw [cx_und, h] at this
  have := List.all_eq_true.1 this f hf
  obtain ⟨j, hj⟩ := Option.isSome_iff_exists.1 this
  exact ⟨j, cx_ty _ _ hj⟩
theorem cx_ok : CxOk cx := ⟨cx_ty, Nat.le_refl _, cx_flds⟩
noncomputable def okF (f : Nat) : Bool :=
  match cx.fn.get f with
  | some fn => okFn cx f fn
  | none => true
noncomputable def okFs (k n : Nat) : Bool := (List.range n).all fun i => okF (k + i)
theorem okF0 : okFs 0 15 = true := by kernel_rfl
theorem okF15 : okFs 15 15 = true := by kernel_rfl
theorem okF30 : okFs 30 15 = true := by kernel_rfl
theorem okF45 : okFs 45 15 = true := by kernel_rfl
theorem okF60 : okFs 60 15 = true := by kernel_rfl
theorem okF75 : okFs 75 15 = true := by kernel_rfl
theorem okF90 : okFs 90 15 = true := by kernel_rfl
theorem okF105 : okFs 105 15 = true := by kernel_rfl
theorem okF120 : okFs 120 15 = true := by kernel_rfl
theorem okF135 : okFs 135 15 = true := by kernel_rfl
theorem okF150 : okFs 150 15 = true := by kernel_rfl
theorem okF165 : okFs 165 15 = true := by kernel_rfl
theorem okF180 : okFs 180 15 = true := by kernel_rfl
theorem okF195 : okFs 195 15 = true := by kernel_rfl
theorem okF210 : okFs 210 15 = true := by kernel_rfl
theorem okF225 : okFs 225 15 = true := by kernel_rfl
theorem okF240 : okFs 240 15 = true := by kernel_rfl
theorem okF255 : okFs 255 15 = true := by kernel_rfl
theorem okF270 : okFs 270 15 = true := by kernel_rfl
theorem okF285 : okFs 285 15 = true := by kernel_rfl
theorem okF300 : okFs 300 15 = true := by kernel_rfl
theorem okF315 : okFs 315 15 = true := by kernel_rfl
theorem okF330 : okFs 330 15 = true := by kernel_rfl
theorem okF345 : okFs 345 15 = true := by kernel_rfl
theorem okF360 : okFs 360 15 = true := by kernel_rfl
theorem okF375 : okFs 375 15 = true := by kernel_rfl
theorem okF390 : okFs 390 15 = true := by kernel_rfl
theorem okF405 : okFs 405 15 = true := by kernel_rfl
theorem okF420 : okFs 420 15 = true := by kernel_rfl
theorem okF435 : okFs 435 15 = true := by kernel_rfl
theorem okF450 : okFs 450 15 = true := by kernel_rfl
theorem okF465 : okFs 465 15 = true := by kernel_rfl
theorem okF480 : okFs 480 15 = true := by kernel_rfl
theorem okF495 : okFs 495 15 = true := by kernel_rfl
theorem okF510 : okFs 510 15 = true := by kernel_rfl
theorem okF525 : okFs 525 15 = true := by kernel_rfl
theorem okF540 : okFs 540 15 = true := by kernel_rfl
theorem okF555 : okFs 555 15 = true := by kernel_rfl
theorem okF570 : okFs 570 15 = true := by kernel_rfl
theorem okF585 : okFs 585 15 = true := by kernel_rfl
theorem okF600 : okFs 600 15 = true := by kernel_rfl
theorem okF615 : okFs 615 15 = true := by kernel_rfl
theorem okF630 : okFs 630 15 = true := by kernel_rfl
theorem okF645 : okFs 645 15 = true := by kernel_rfl
theorem okF660 : okFs 660 15 = true := by kernel_rfl
theorem okF675 : okFs 675 15 = true := by kernel_rfl
theorem okF690 : okFs 690 15 = true := by kernel_rfl
theorem okF705 : okFs 705 15 = true := by kernel_rfl
theorem funcs_n : Tryz.prog.funcs.toList.length = 715 := by kernel_rfl
theorem okFs_at {k n f : Nat} (h : okFs k n = true) (h1 : k ≤ f) (h2 : f < k + n) : okF f = true := by
  have := List.all_eq_true.1 h (f - k) (List.mem_range.2 (by omega))
  rwa [show k + (f - k) = f by omega] at this
theorem okF_all (f : Nat) (h : f < 715) : okF f = true := by
  by_cases h0 : f < 15
  · exact okFs_at okF0 (by omega) (by omega)
  by_cases h15 : f < 30
  · exact okFs_at okF15 (by omega) (by omega)
  by_cases h30 : f < 45
  · exact okFs_at okF30 (by omega) (by omega)
  by_cases h45 : f < 60
  · exact okFs_at okF45 (by omega) (by omega)
  by_cases h60 : f < 75
  · exact okFs_at okF60 (by omega) (by omega)
  by_cases h75 : f < 90
  · exact okFs_at okF75 (by omega) (by omega)
  by_cases h90 : f < 105
  · exact okFs_at okF90 (by omega) (by omega)
  by_cases h105 : f < 120
  · exact okFs_at okF105 (by omega) (by omega)
  by_cases h120 : f < 135
  · exact okFs_at okF120 (by omega) (by omega)
  by_cases h135 : f < 150
  · exact okFs_at okF135 (by omega) (by omega)
  by_cases h150 : f < 165
  · exact okFs_at okF150 (by omega) (by omega)
  by_cases h165 : f < 180
  · exact okFs_at okF165 (by omega) (by omega)
  by_cases h180 : f < 195
  · exact okFs_at okF180 (by omega) (by omega)
  by_cases h195 : f < 210
  · exact okFs_at okF195 (by omega) (by omega)
  by_cases h210 : f < 225
  · exact okFs_at okF210 (by omega) (by omega)
  by_cases h225 : f < 240
  · exact okFs_at okF225 (by omega) (by omega)
  by_cases h240 : f < 255
  · exact okFs_at okF240 (by omega) (by omega)
  by_cases h255 : f < 270
  · exact okFs_at okF255 (by omega) (by omega)
  by_cases h270 : f < 285
  · exact okFs_at okF270 (by omega) (by omega)
  by_cases h285 : f < 300
  · exact okFs_at okF285 (by omega) (by omega)
  by_cases h300 : f < 315
  · exact okFs_at okF300 (by omega) (by omega)
  by_cases h315 : f < 330
  · exact okFs_at okF315 (by omega) (by omega)
  by_cases h330 : f < 345
  · exact okFs_at okF330 (by omega) (by omega)
  by_cases h345 : f < 360
  · exact okFs_at okF345 (by omega) (by omega)
  by_cases h360 : f < 375
  · exact okFs_at okF360 (by omega) (by omega)
  by_cases h375 : f < 390
  · exact okFs_at okF375 (by omega) (by omega)
  by_cases h390 : f < 405
  · exact okFs_at okF390 (by omega) (by omega)
  by_cases h405 : f < 420
  · exact okFs_at okF405 (by omega) (by omega)
  by_cases h420 : f < 435
  · exact okFs_at okF420 (by omega) (by omega)
  by_cases h435 : f < 450
  · exact okFs_at okF435 (by omega) (by omega)
  by_cases h450 : f < 465
  · exact okFs_at okF450 (by omega) (by omega)
  by_cases h465 : f < 480
  · exact okFs_at okF465 (by omega) (by omega)
  by_cases h480 : f < 495
  · exact okFs_at okF480 (by omega) (by omega)
  by_cases h495 : f < 510
  · exact okFs_at okF495 (by omega) (by omega)
  by_cases h510 : f < 525
  · exact okFs_at okF510 (by omega) (by omega)
  by_cases h525 : f < 540
  · exact okFs_at okF525 (by omega) (by omega)
  by_cases h540 : f < 555
  · exact okFs_at okF540 (by omega) (by omega)
  by_cases h555 : f < 570
  · exact okFs_at okF555 (by omega) (by omega)
  by_cases h570 : f < 585
  · exact okFs_at okF570 (by omega) (by omega)
  by_cases h585 : f < 600
  · exact okFs_at okF585 (by omega) (by omega)
  by_cases h600 : f < 615
  · exact okFs_at okF600 (by omega) (by omega)
  by_cases h615 : f < 630
  · exact okFs_at okF615 (by omega) (by omega)
  by_cases h630 : f < 645
  · exact okFs_at okF630 (by omega) (by omega)
  by_cases h645 : f < 660
  · exact okFs_at okF645 (by omega) (by omega)
  by_cases h660 : f < 675
  · exact okFs_at okF660 (by omega) (by omega)
  by_cases h675 : f < 690
  · exact okFs_at okF675 (by omega) (by omega)
  by_cases h690 : f < 705
  · exact okFs_at okF690 (by omega) (by omega)
  exact okFs_at okF705 (by omega) (by omega)
theorem cx_fns (f : Nat) (fn : Func) (h : cx.fn.get f = some fn) : cx.P.funcs[f]? = some fn ∧ okFn cx f fn = true := by
  have h1 := h
  rw [cx_fn] at h1
  have hlt := (Array.getElem?_eq_some_iff.1 h1).1
  have hn := funcs_n
  have := okF_all f (by rw [← hn]; simpa using hlt)
  unfold okF at this
  rw [h] at this
  exact ⟨h1, this⟩
theorem mixed_ok : Tryz.prog.follows .mixedOrders = true := by kernel_rfl
theorem cx_hooks (f : Nat) (k : List SV → St → Option (SV × St)) (hk : cx.hook f = some k) (args : List SV) (st : St) (s : SV) (st' : St) (e : k args st = some (s, st')) (σ : Env) (h : Heap) (vs : List Value) (H : Rep cx.ng st σ h) (hv : denL σ args = some vs) :
    Fx cx.P f vs.toArray h fun v h' => ∃ σ', den σ' s = some v ∧ Goes cx.ng st σ h st' σ' h' := by
  have hk' : hooks f = some k := hk
  unfold hooks at hk'
  split at hk'
  · rename_i hf; subst hf; cases hk'; exact of_ok (C := cx) rfl e H hv
  · split at hk'
    · rename_i hf; subst hf; cases hk'; exact stag_ok (C := cx) rfl e H hv
    · split at hk'
      · rename_i hf; subst hf; cases hk'; exact rof_ok (C := cx) rfl (by decide) e H hv
      · split at hk'
        · rename_i hf; subst hf; cases hk'; exact rtag_ok (C := cx) rfl (by decide) e H hv
        · split at hk'
          · rename_i hf; subst hf; cases hk'; exact sha_ok (C := cx) rfl e H hv
          · split at hk'
            · rename_i hf; subst hf; cases hk'; exact coll_ok (C := cx) rfl e H hv
            · cases hk'
theorem cx_fnok : FnOk cx := ⟨mixed_ok, cx_fns, cx_hooks⟩
end Go.Proofs.YtdielfpgekenkaaGreatDoor.Sx
