/-
  The head of a region that draws its order.
  States that are alike up to the numbers of what was made.
  Allocs whose numbers are kept ready: in the evaluator they are done late.
-/
import Derived.Test.YtdielfpgekenkaaGreatDoorJ12
namespace Go.Proofs.YtdielfpgekenkaaGreatDoor.Sx
open Go Vm
set_option linter.unusedSimpArgs false
set_option linter.unusedVariables false
/-- the head so far: b, σ0, h0: the beginning; n1: behind the numbers that are kept ready; wd: something ran that may turn anything -/
structure HI (C : Cx) (b : St) (σ0 : Env) (h0 : Heap) (n1 : Nat) (wd : Bool) (st : St) (σ : Env) (h : Heap) : Prop where
  rep : Rep C.ng st σ h
  steps : Steps b.n st.low σ0 h0 σ h
  n0 : b.n ≤ n1
  n1 : n1 ≤ st.n
  fresh : wd = false → ∀ (i : Nat) q, b.n ≤ i → σ i = some q → h0.size ≤ q.1
  ng : C.ng ≤ b.n
  size : h0.size ≤ h.size
theorem HI.ext {C : Cx} {b : St} {σ0 : Env} {h0 : Heap} {n1 : Nat} {wd : Bool} {st : St} {σ : Env} {h h' : Heap} (x : HI C b σ0 h0 n1 wd st σ h) (e : ExtH h h') : HI C b σ0 h0 n1 wd st σ h' :=
  ⟨x.rep.ext e, x.steps.trans (Steps.ext b.n st.low σ e) (Nat.le_refl _) (Nat.le_refl _), x.n0, x.n1, x.fresh, x.ng, Nat.le_trans x.size e.size⟩
theorem Rep.low {ng : Nat} {st : St} {σ : Env} {h : Heap} (H : Rep ng st σ h) (l : Nat) : Rep ng { st with low := l } σ h := ⟨H.glob, H.has, H.ngn, H.dom, H.obj, H.inj⟩
theorem Rep.lown {ng : Nat} {st : St} {σ : Env} {h : Heap} (H : Rep ng st σ h) (l n : Nat) (hn : st.n ≤ n) : Rep ng { st with low := l, n := n } σ h :=
  ⟨H.glob, H.has, Nat.le_trans H.ngn hn, fun i q e => ⟨Nat.lt_of_lt_of_le (H.dom i q e).1 hn, (H.dom i q e).2⟩, H.obj, H.inj⟩
/-- the blocks that operation j keeps -/
def Keeps (W : List (Nat × Nat)) (σ0 : Env) (h0 : Heap) (j b : Nat) : Prop := b < h0.size ∧ (∀ q ∈ W, q.1 = j → q.2 ≠ 0 → ∀ x, σ0 q.2 = some x → x.1 ≠ b) ∧
  (wildI W j = true → ∃ q ∈ W, q.1 = KPm ∧ ∃ x, σ0 q.2 = some x ∧ x.1 = b)
theorem wildI_ok {W : List (Nat × Nat)} {i : Nat} : wildI W i = true ↔ ∃ q ∈ W, q.1 = i ∧ q.2 = 0 := by
  unfold wildI
  simp only [List.any_eq_true, Bool.and_eq_true, decide_eq_true_eq]
theorem sameRow_ok {a b : Option SO} (h : sameRow a b = true) : ∃ l t, a = some (.row l t none true) ∧ b = some (.row l t none true) := by
  unfold sameRow at h
  split at h
  · rename_i l t l' t'
    rw [Bool.and_eq_true] at h
    have e1 := eqVs_ok _ _ h.1
    have e2 := Nat.eq_of_beq_eq_true h.2
    subst e1 e2
    exact ⟨_, _, rfl, rfl⟩
  · cases h
section
variable {C : Cx} (hC : CxOk C) {b st : St} {σ0 σ : Env} {h0 h : Heap} {n1 : Nat} {wd : Bool} {sf : SF} {fr : Fr} {β : Type} {r : β} {W : List (Nat × Nat)}
theorem HI.more (x : HI C b σ0 h0 n1 wd st σ h) (w : Bool) : HI C b σ0 h0 n1 (w || wd) st σ h :=
  ⟨x.rep, x.steps, x.n0, x.n1, fun hw => x.fresh (by cases w <;> simp_all), x.ng, x.size⟩
theorem HI.gone (x : HI C b σ0 h0 n1 wd st σ h) {st' : St} {σ' : Env} {h' : Heap} (hG : Goes C.ng { st with low := st.n } σ h st' σ' h') : HI C b σ0 h0 n1 true { st' with low := min st.low st'.low } σ' h' := by
  have hn1 := x.n1
  have hn0 := x.n0
  have hgn : st.n ≤ st'.n := hG.n
  exact ⟨hG.rep.low _, (x.steps.less (Nat.le_refl _) (Nat.min_le_left _ _)).trans (hG.steps.less (by show b.n ≤ st.n; omega) (Nat.min_le_right _ _)) (Nat.le_refl _) (Nat.le_refl _), x.n0, by show n1 ≤ st'.n; omega, (fun h => by cases h), x.ng, Nat.le_trans x.size hG.steps.size⟩
/-- a step that turns nothing at all -/
theorem HI.pure (x : HI C b σ0 h0 n1 wd st σ h) {st' : St} {σ' : Env} {h' : Heap} (hG : Goes C.ng { st with low := st.n } σ h st' σ' h') (hl : st.n ≤ st'.low) : HI C b σ0 h0 n1 wd { st' with low := min st.low st'.low } σ' h' ∧ ∀ c, c < h.size → h'[c]? = h[c]? := by
  have out : ∀ (i : Nat) q, σ i = none → σ' i = some q → h.size ≤ q.1 := fun i q hs e => by
    rcases Nat.lt_or_ge q.1 h.size with hq | hq
    · obtain ⟨j, r, h1, h2, h3⟩ := hG.steps.new i q hs e hq
      have := (x.rep.dom j r h2).1
      omega
    · exact hq
  have g := x.gone hG
  refine ⟨⟨g.rep, g.steps, g.n0, g.n1, fun hw i q hi e => ?_, g.ng, g.size⟩, fun c hc => ?_⟩
  · cases hs : σ i with
    | some q' =>
      have := hG.pre i q' hs
      rw [e] at this; cases this
      exact x.fresh hw i q hi hs
    | none => exact Nat.le_trans x.size (out i q hs e)
  · refine hG.steps.keep c hc fun i q hi e hq => ?_
    cases hs : σ i with
    | some q' =>
      have := (x.rep.dom i q' hs).1
      omega
    | none =>
      have := out i q hs e
      omega
/-- a step that turns nothing below -/
theorem HI.step (x : HI C b σ0 h0 n1 wd st σ h) (hw : wd = false) {st' : St} {σ' : Env} {h' : Heap} (hG : Goes C.ng { st with low := st.n } σ h st' σ' h') (hl : b.n ≤ st'.low) : HI C b σ0 h0 n1 wd { st' with low := min st.low st'.low } σ' h' ∧ ∀ c, c < h0.size → h'[c]? = h[c]? := by
  have hf : ∀ (i : Nat) q, b.n ≤ i → σ' i = some q → h0.size ≤ q.1 := fun i q hi e => by
    cases hs : σ i with
    | some q' =>
      have := hG.pre i q' hs
      rw [e] at this; cases this
      exact x.fresh hw i q hi hs
    | none =>
      rcases Nat.lt_or_ge q.1 h.size with hq | hq
      · obtain ⟨j, r, h1, h2, h3⟩ := hG.steps.new i q hs e hq
        rw [← h3]
        exact x.fresh hw j r (Nat.le_trans hl h1) h2
      · exact Nat.le_trans x.size hq
  have g := x.gone hG
  refine ⟨⟨g.rep, g.steps, g.n0, g.n1, fun _ => hf, g.ng, g.size⟩, fun c hc => ?_⟩
  refine hG.steps.keep c (Nat.lt_of_lt_of_le hc x.size) fun i q hi e hq => ?_
  have := hf i q (Nat.le_trans hl hi) e
  omega
theorem rep_row {ng : Nat} (H : Rep ng st σ h) {id : Nat} {q : Nat × Nat} (hq : σ id = some q) {l : List SV} {t : Nat} (ho : st.hp.get id = some (.row l t none true)) : ∃ vs, denL σ l = some vs ∧ h[q.1]? = some (.cells vs.toArray t (0, 0)) := by
  obtain ⟨q', hq', vs, tl, fz, h1, _, h3, h4, h5⟩ := H.obj id _ ho
  rw [hq] at hq'; cases hq'
  have h4 : tl = [] := h4
  subst h4
  have h5 := h5 rfl
  subst h5
  exact ⟨vs, h1, by rw [h3, List.append_nil]⟩
/-- what a wild operation keeps -/
theorem HI.kept (x : HI C b σ0 h0 n1 wd st σ h) {st' : St} {σ' : Env} {h' : Heap} (hG : Goes C.ng { st with low := st.n } σ h st' σ' h') {i : Nat} (hw : wildI W i = true) (hk : keptB W b.n st st' = true) {c : Nat} (hc : Keeps W σ0 h0 i c) : h'[c]? = h[c]? := by
  obtain ⟨q, hq, hq1, y, hy, rfl⟩ := hc.2.2 hw
  have h1 := List.all_eq_true.1 hk q hq
  have hb : Nat.beq q.1 KPm = true := by rw [hq1]; exact Nat.beq_refl _
  rw [hb] at h1
  simp only [Bool.not_true, Bool.false_or, Bool.and_eq_true, Nat.blt_eq] at h1
  obtain ⟨l, t, e1, e2⟩ := sameRow_ok h1.2
  have hs : σ q.2 = some y := by rw [x.steps.same _ h1.1]; exact hy
  obtain ⟨vs, d1, g1⟩ := rep_row x.rep hs e1
  obtain ⟨vs', d2, g2⟩ := rep_row hG.rep (hG.pre _ _ hs) e2
  rw [denL_mono hG.pre _ _ d1] at d2
  cases d2
  rw [g1, g2]
include hC in
/-- a store, told closer -/
theorem store_to (hF : Frm σ sf fr) (H : Rep C.ng st σ h) {o : Oper} (hst : isStore o = true) {call : Nat → List SV → St → Option (SV × St)} {k : SV → St → Option β} (e : C.opx call o sf st k = some r) {K : Value → Heap → Prop}
    (hK : ∀ s st' v h' id q, k s st' = some r → den σ s = some v → Goes C.ng st σ h st' σ h' → σ id = some q → st'.low = min st.low id → st'.n = st.n → (∀ c, c ≠ q.1 → h'[c]? = h[c]?) → K v h') : Vm.opx C.P o fr h K := by
  unfold isStore at hst
  split at hst
  · rename_i T x y ho
    have hq : C.quietOp o = false := by unfold Cx.quietOp; simp only [ho]
    unfold Cx.opx at e
    simp only [hq] at e
    unfold Vm.opx
    rw [← quiet_eq hC, hq]
    rw [opiQ_eq] at e
    unfold Cx.opi at e
    simp only [ho, Option.bind_eq_some_iff] at e
    obtain ⟨xs, hx, ys, hy, e⟩ := e
    obtain ⟨xv, x1, x2⟩ := evO_ok hF hx
    obtain ⟨yv, y1, y2⟩ := evO_ok hF hy
    split at e
    · rename_i id off
      unfold Cx.storeS at e
      simp only [Option.bind_eq_some_iff] at e
      obtain ⟨⟨l, t, g⟩, hr, s, hs, e⟩ := e
      obtain ⟨i, hi, rfl⟩ := hC.size hs
      split at e
      · rename_i hc
        obtain ⟨c1, c2, c3⟩ := hc
        rw [forceVs_eq] at e
        obtain ⟨us, hus, hcv⟩ := den_cells y2
        have e2 := denL_length _ _ hus
        obtain ⟨q, cur, hq, hb, hle, hw⟩ := row_turn2 H hr hus (onesB_ok _ _ c3 hus) (by rw [c1]; exact c2) (β := β)
        obtain ⟨q', hq', rfl⟩ := den_p x2
        rw [hq] at hq'; cases hq'
        unfold Vm.opi
        simp only [ho, evk_of x1, evk_of y1, hi]
        have fin : ∀ h', Wrote h h' q.1 (splice cur off us) t → K undef h' := fun h' w => by
          rw [← c1] at e
          obtain ⟨st', e', hG, hn, hlow⟩ := hw h' w e
          exact hK undefS st' undef h' id q e' rfl hG hq hlow hn w.block
        unfold storek
        have hones := onesB_ok _ _ c3 hus
        split
        · rename_i cs
          simp only [Value.cells] at hcv
          subst hcv
          refine ⟨cur, t, hb, ⟨by simpa using hle, by simp only [List.size_toArray]; omega, by simpa using hones⟩, fun h' w => fin h' (by simpa using w)⟩
        · simp only [Value.cells] at hcv
          rename_i tv
          have : us = [.tuple tv] := by simpa using hcv.symm
          subst this
          have := hones _ (List.mem_singleton.2 rfl)
          cases this
        · rename_i hna hnt
          have hus1 : us = [yv] := by
            have : yv.cells = #[yv] := by cases yv <;> first | rfl | exact absurd rfl (hna _)
            rw [this] at hcv
            simpa using hcv.symm
          subst hus1
          simp only [List.length_singleton] at hle e2
          rw [if_pos (by omega)]
          refine ⟨cur, t, hb, by omega, fun h' w => fin h' ?_⟩
          have : splice cur off [yv] = cur.set off yv := by
            unfold splice
            rw [List.set_eq_take_append_cons_drop, if_pos (by omega)]
            simp
          rw [this]
          exact w
      · cases e
    · cases e
  · cases hst
theorem resOf_ge {n0 : Nat} : ∀ (l : List Nat) (i k id : Nat), resOf n0 l i k = some id → n0 ≤ id
  | [], _, _, _, h => by simp [resOf] at h
  | x :: l, i, k, id, h => by
    simp only [resOf] at h
    split at h
    · cases h; omega
    · exact resOf_ge l i (k + 1) id h
include hC in
theorem imp_ok {call : Nat → List SV → St → Option (SV × St)} (hcall : CallOk C call) (hF : Frm σ sf fr) (x : HI C b σ0 h0 n1 wd st σ h) {all : List Oper} {i : Nat} {k : SF → St → Option β} (e : C.imp call all W b.n wd i sf st k = some r) {K : Fr → Heap → Prop}
    (hK : ∀ sf' st' σ' fr' h', k sf' st' = some r → Frm σ' sf' fr' → HI C b σ0 h0 n1 (wildI W i || wd) st' σ' h' → (∃ o v h1 low h2, all[i]? = some o ∧ fr' = Vm.put fr o.dst v ∧ ExtH h h1 ∧ Steps st.n low σ h1 σ' h2 ∧ ExtH h2 h') → K fr' h') : evKI C.P all (Keeps W σ0 h0 i) K i fr h := by
  unfold Cx.imp at e
  simp only [Option.bind_eq_some_iff] at e
  obtain ⟨o, ho, e⟩ := e
  unfold evKI
  simp only [ho]
  refine gk_ok hF e (fun e => ?_) (fun e => ?_)
  · intro h1 hx
    have x1 := x.ext hx
    have next : ∀ (s : SV) (v : Value) (st' : St) (σ' : Env) (h' : Heap), Pre σ σ' → den σ' s = some v → HI C b σ0 h0 n1 (wildI W i || wd) { st' with low := min st.low st'.low } σ' h' → Steps st.n st'.low σ h1 σ' h' →
        (forceN (min st.low st'.low) fun low => putS sf o.dst s fun fr => k fr { st' with low }) = some r → ∀ h3, ExtH h' h3 → K (Vm.put fr o.dst v) h3 := by
      intro s v st' σ' h' hp hv hx' hS e h3 h23
      rw [forceN_eq] at e
      obtain ⟨sf', e, hF'⟩ := (hF.mono hp).put hv e
      exact hK sf' _ σ' _ h3 e hF' (hx'.ext h23) ⟨o, v, h1, _, h', ho, rfl, hx, hS, h23⟩
    have wild : ∀ {st' : St} {σ' : Env} {h' : Heap}, wildI W i = true → Goes C.ng { st with low := st.n } σ h1 st' σ' h' → HI C b σ0 h0 n1 (wildI W i || wd) { st' with low := min st.low st'.low } σ' h' := fun hw hG => by
      rw [hw]; exact x1.gone hG
    · by_cases hst : isStore o = true
      · refine store_to hC hF (x1.rep.low st.n) hst e fun s st' v h' id q e2 hv hG hq hlow hn hblk => ?_
        split at e2
        · rename_i hc
          have hid : id < st.n := (x1.rep.dom id q hq).1
          have hlow' : st'.low = id := by rw [hlow]; show min st.n id = id; omega
          by_cases hwi : (wildI W i && keptB W b.n st st') = true
          · rw [Bool.and_eq_true] at hwi
            exact ⟨⟨hG.steps.size, fun c hc2 hlt => x1.kept hG hwi.1 hwi.2 hc2⟩, next s v st' σ h' (Pre.refl _) hv (wild hwi.1 hG) hG.steps e2⟩
          · rw [Bool.or_eq_true] at hc
            replace hc := hc.resolve_right hwi
            simp only [Bool.or_eq_true, Bool.and_eq_true, Nat.ble_eq] at hc
            rcases hc with hc | ⟨hwd, hc⟩
            · omega
            · have hwd : wd = false := by simpa using hwd
              have hI : HI C b σ0 h0 n1 wd { st' with low := min st.low st'.low } σ h' := by
                have g := x1.gone hG
                exact ⟨g.rep, g.steps, g.n0, g.n1, fun h => x.fresh h, g.ng, g.size⟩
              refine ⟨⟨hG.steps.size, fun c hc2 hlt => hblk c fun ec => ?_⟩, next s v st' σ h' (Pre.refl _) hv (hI.more _) hG.steps e2⟩
              subst ec
              rcases Nat.lt_or_ge id b.n with hb | hb
              · simp only [List.any_eq_true, Bool.and_eq_true, decide_eq_true_eq] at hc
                rcases hc with hc | ⟨_, w, hw, ⟨hw1, hw2⟩, hw3⟩
                · omega
                · have hs := x.steps.same id hb
                  refine hc2.2.1 w hw hw1 (fun e0 => by rw [e0] at hw3; cases hw3) q ?_ rfl
                  rw [hw2, hlow', ← hs]
                  exact hq
              · have := x.fresh hwd id q hb hq
                have := hc2.1
                omega
        · cases e2
      · refine opx_ok hC hcall hF (x1.rep.low st.n) e fun s st' σ' v h' e2 hv hG => ?_
        split at e2
        · rename_i hc
          by_cases hwi : (wildI W i && keptB W b.n st st') = true
          · rw [Bool.and_eq_true] at hwi
            exact ⟨⟨hG.steps.size, fun c hc2 hlt => x1.kept hG hwi.1 hwi.2 hc2⟩, next s v st' σ' h' hG.pre hv (wild hwi.1 hG) hG.steps e2⟩
          · rw [Bool.or_eq_true] at hc
            replace hc := hc.resolve_right hwi
            simp only [Bool.or_eq_true, Bool.and_eq_true, Nat.ble_eq] at hc
            rcases hc with hc | ⟨hwd, hc⟩
            · obtain ⟨hI, hkeep⟩ := x1.pure hG hc
              exact ⟨⟨hG.steps.size, fun c hc2 hlt => hkeep c hlt⟩, next s v st' σ' h' hG.pre hv (hI.more _) hG.steps e2⟩
            · have hl : b.n ≤ st'.low := by
                rcases hc with hc | hc
                · exact hc
                · exact absurd hc.1 hst
              obtain ⟨hI, hkeep⟩ := x1.step (by simpa using hwd) hG hl
              exact ⟨⟨hG.steps.size, fun c hc2 hlt => hkeep c hc2.1⟩, next s v st' σ' h' hG.pre hv (hI.more _) hG.steps e2⟩
        · cases e2
  · intro h3 hx
    obtain ⟨sf', e, hF'⟩ := hF.put (den_undef σ) e
    exact hK sf' st σ _ h3 e hF' ((x.more _).ext hx) ⟨o, undef, h, st.low, h, ho, rfl, ExtH.refl _, Steps.refl _ _ _ _, hx⟩
end
end Go.Proofs.YtdielfpgekenkaaGreatDoor.Sx
namespace Go.Proofs.YtdielfpgekenkaaGreatDoor.Sx
open Go Vm
set_option linter.unusedSimpArgs false
set_option linter.unusedVariables false
mutual
theorem den_ren (σ : Env) (ρ : Nat → Nat) : ∀ (s : SV), den (fun i => σ (ρ i)) s = den σ (renV ρ s)
  | .b _ => rfl
  | .i _ _ => rfl
  | .s _ => rfl
  | .p _ _ => rfl
  | .pn => rfl
  | .sl _ _ _ _ => rfl
  | .sg _ _ _ _ => rfl
  | .se _ _ _ _ _ => rfl
  | .sn => rfl
  | .m _ => rfl
  | .mn => rfl
  | .f g a c => by simp only [den, renV, denL_ren σ ρ a, denL_ren σ ρ c]
  | .nf => rfl
  | .ifc t v => by simp only [den, renV, den_ren σ ρ v]
  | .nifc => rfl
  | .agg l => by simp only [den, renV, denL_ren σ ρ l]
  | .tup l => by simp only [den, renV, denL_ren σ ρ l]
theorem denL_ren (σ : Env) (ρ : Nat → Nat) : ∀ (l : List SV), denL (fun i => σ (ρ i)) l = denL σ (renVs ρ l)
  | [] => rfl
  | v :: r => by simp only [denL, renVs, den_ren σ ρ v, denL_ren σ ρ r]
end
theorem renPs_fst (ρ : Nat → Nat) : ∀ (l : List (SV × SV)), (renPs ρ l).map (·.1) = renVs ρ (l.map (·.1))
  | [] => rfl
  | p :: r => by simp only [renPs, renVs, List.map_cons, renPs_fst ρ r]
theorem renPs_snd (ρ : Nat → Nat) : ∀ (l : List (SV × SV)), (renPs ρ l).map (·.2) = renVs ρ (l.map (·.2))
  | [] => rfl
  | p :: r => by simp only [renPs, renVs, List.map_cons, renPs_snd ρ r]
theorem objR_ren {σ : Env} {ρ : Nat → Nat} {q : Nat × Nat} {c : Option Obj} {o : SO} (h : objR σ q c (renO ρ o)) : objR (fun i => σ (ρ i)) q c o := by
  cases o with
  | row l t g w =>
    obtain ⟨vs, tl, fz, h1, h2⟩ := h
    exact ⟨vs, tl, fz, by rw [denL_ren]; exact h1, h2⟩
  | map es =>
    obtain ⟨mes, cc, h1, h2, h3, h4⟩ := h
    refine ⟨mes, cc, h1, ?_, ?_, h4⟩
    · rw [denL_ren, ← renPs_fst]; exact h2
    · rw [denL_ren, ← renPs_snd]; exact h3
  | tab l =>
    obtain ⟨vs, arr, t, fz, h1, h2⟩ := h
    exact ⟨vs, arr, t, fz, by rw [denL_ren]; exact h1, h2⟩
  | dead => trivial
theorem renO_live (ρ : Nat → Nat) (o : SO) : (renO ρ o).live = o.live := by cases o <;> rfl
theorem allT_ok {α : Type} {p : Nat → α → Bool} : ∀ (t : Tr α) (a b : Nat), allT p t a b = true → ∀ i o, t.get i = some o → p (a * i + b) o = true
  | .nil, a, b, h, i, o, ho => by simp [get_nil, get_zero] at ho
  | .node l v r, a, b, h, i, o, ho => by
    simp only [allT, Bool.and_eq_true] at h
    obtain ⟨⟨h1, h2⟩, h3⟩ := h
    cases i with
    | zero =>
      simp only [get_zero] at ho
      subst ho
      simpa using h1
    | succ n =>
      simp only [get_succ] at ho
      split at ho
      · rename_i hn
        have := allT_ok l _ _ h2 _ _ ho
        have e : 2 * a * (n / 2) + (a + b) = a * (n + 1) + b := by
          obtain ⟨k, rfl⟩ : ∃ k, n = 2 * k := ⟨n / 2, by omega⟩
          have : 2 * k / 2 = k := by omega
          rw [this, Nat.mul_add, Nat.mul_one, Nat.mul_comm 2 a, Nat.mul_assoc]
          omega
        rwa [e] at this
      · rename_i hn
        have := allT_ok r _ _ h3 _ _ ho
        have e : 2 * a * (n / 2) + (2 * a + b) = a * (n + 1) + b := by
          obtain ⟨k, rfl⟩ : ∃ k, n = 2 * k + 1 := ⟨n / 2, by omega⟩
          have : (2 * k + 1) / 2 = k := by omega
          rw [this, Nat.mul_comm 2 a, Nat.mul_assoc, show 2 * k + 1 + 1 = 2 * k + 2 by omega, Nat.mul_add]
          omega
        rwa [e] at this
theorem eqT_ren {ρ : Nat → Nat} : ∀ (x y : Tr SV), eqT (fun a b => eqV (renV ρ a) b) x y = true → ∀ i s, x.get i = some s → y.get i = some (renV ρ s)
  | .nil, .nil, _, i, s, h => by simp [get_nil, get_zero] at h
  | .nil, .node _ _ _, h, _, _, _ => by simp [eqT] at h
  | .node _ _ _, .nil, h, _, _, _ => by simp [eqT] at h
  | .node l v r, .node l' v' r', h, i, s, hs => by
    simp only [eqT, Bool.and_eq_true] at h
    obtain ⟨⟨h1, h2⟩, h3⟩ := h
    cases i with
    | zero =>
      simp only [get_zero] at hs ⊢
      subst hs
      cases v' with
      | none => simp [eqOpt] at h1
      | some u =>
        simp only [eqOpt] at h1
        rw [eqV_ok _ _ h1]
    | succ n =>
      simp only [get_succ] at hs ⊢
      split
      · rename_i hn
        rw [if_pos hn] at hs
        exact eqT_ren l l' h2 _ _ hs
      · rename_i hn
        rw [if_neg hn] at hs
        exact eqT_ren r r' h3 _ _ hs
theorem invB_at {n1 n : Nat} : ∀ (l l' : List Nat) (i : Nat), invB n1 n l l' i = true → i + l.length = n ∧ ∀ k x, l[k]? = some x → n1 ≤ x ∧ x < n ∧ l'[x - n1]? = some (i + k)
  | [], l', i, h => by
    simp only [invB, decide_eq_true_eq] at h
    exact ⟨by simpa using h, fun k x hk => by simp at hk⟩
  | y :: l, l', i, h => by
    simp only [invB, Bool.and_eq_true, Nat.ble_eq, Nat.blt_eq, decide_eq_true_eq] at h
    obtain ⟨⟨⟨h1, h2⟩, h3⟩, h4⟩ := h
    obtain ⟨g1, g2⟩ := invB_at l l' (i + 1) h4
    refine ⟨by simp only [List.length_cons]; omega, fun k x hk => ?_⟩
    cases k with
    | zero => simp only [List.getElem?_cons_zero, Option.some.injEq] at hk; subst hk; exact ⟨h1, h2, h3⟩
    | succ k =>
      simp only [List.getElem?_cons_succ] at hk
      obtain ⟨a, b, c⟩ := g2 k x hk
      exact ⟨a, b, by rw [c]; congr 1; omega⟩
section
variable {n1 n : Nat} {l l' : List Nat} (h : invB n1 n l l' n1 = true)
theorem ap_low {n1 : Nat} {l : List Nat} {i : Nat} (hi : i < n1) : apL n1 l i = i := by
  unfold apL
  rw [if_pos (by simpa using hi)]
include h in
theorem ap_in {i : Nat} (h1 : n1 ≤ i) (h2 : i < n) : n1 ≤ apL n1 l i ∧ apL n1 l i < n ∧ apL n1 l' (apL n1 l i) = i := by
  obtain ⟨g1, g2⟩ := invB_at l l' n1 h
  have hk : i - n1 < l.length := by omega
  have e : l[i - n1]? = some l[i - n1] := List.getElem?_eq_getElem hk
  obtain ⟨a, b, c⟩ := g2 _ _ e
  have e1 : apL n1 l i = l[i - n1] := by
    unfold apL
    rw [if_neg (by simp; omega), e]
    rfl
  rw [e1]
  refine ⟨a, b, ?_⟩
  unfold apL
  rw [if_neg (by simp; omega), c]
  simp only [Option.getD_some]
  omega
include h in
theorem ap_out {i : Nat} (h1 : n1 ≤ i) (h2 : n ≤ i) : apL n1 l i = i := by
  obtain ⟨g1, g2⟩ := invB_at l l' n1 h
  unfold apL
  rw [if_neg (by simp; omega), List.getElem?_eq_none (by omega)]
  rfl
end
theorem ap_inv {n1 n : Nat} {l l' : List Nat} (h : invB n1 n l l' n1 = true) (h' : invB n1 n l' l n1 = true) (i : Nat) : apL n1 l' (apL n1 l i) = i := by
  rcases Nat.lt_or_ge i n1 with h1 | h1
  · rw [ap_low h1, ap_low h1]
  · rcases Nat.lt_or_ge i n with h2 | h2
    · exact (ap_in h h1 h2).2.2
    · rw [ap_out h h1 h2, ap_out h' h1 h2]
theorem ap_ge {n1 n : Nat} {l l' : List Nat} (h : invB n1 n l l' n1 = true) {i : Nat} (h1 : n1 ≤ i) : n1 ≤ apL n1 l i := by
  rcases Nat.lt_or_ge i n with h2 | h2
  · exact (ap_in h h1 h2).1
  · rw [ap_out h h1 h2]; exact h1
theorem ap_lt {n1 n : Nat} {l l' : List Nat} (h : invB n1 n l l' n1 = true) {i : Nat} (h1 : apL n1 l i < n) (hn : n1 ≤ n) : i < n := by
  rcases Nat.lt_or_ge i n with h2 | h2
  · exact h2
  · rw [ap_out h (by omega) h2] at h1; exact h1
theorem iso_ok {C : Cx} {b : St} {σ0 : Env} {h0 : Heap} {n1 N : Nat} {wd : Bool} {l l' : List Nat} {x y : SF × St} (hiso : isoB N l l' x y = true) (hbN : b.n ≤ N) (H0 : Rep C.ng b σ0 h0) {σ : Env} {fr : Fr} {h : Heap} (hF : Frm σ y.1 fr) (hI : HI C b σ0 h0 n1 wd y.2 σ h) :
    Frm (fun i => σ (apL N l i)) x.1 fr ∧ HI C b σ0 h0 n1 wd x.2 (fun i => σ (apL N l i)) h := by
  unfold isoB at hiso
  simp only [Bool.and_eq_true, decide_eq_true_eq, Nat.ble_eq] at hiso
  obtain ⟨⟨⟨⟨⟨⟨⟨⟨⟨⟨e1, e0⟩, e2⟩, e3⟩, e4⟩, e5⟩, e6⟩, e7⟩, e8⟩, e9⟩, e10⟩ := hiso
  have hbelow : ∀ i, i < b.n → apL N l i = i := fun i hi => ap_low (Nat.lt_of_lt_of_le hi hbN)
  have hng : C.ng ≤ N := Nat.le_trans H0.ngn hbN
  have hrep := hI.rep
  have ho : ∀ i o, x.2.hp.get i = some o → i < x.2.n ∧ ∃ o', y.2.hp.get (apL N l i) = some o' ∧ renO (apL N l) o = o' := fun i o ho => by
    have := allT_ok _ _ _ e9 i o ho
    rw [Nat.one_mul, Nat.add_zero] at this
    simp only [Bool.and_eq_true, Nat.blt_eq] at this
    refine ⟨this.1, ?_⟩
    have h2 := this.2
    split at h2
    · rename_i o' ho'
      exact ⟨o', ho', eqO_ok _ _ h2⟩
    · cases h2
  refine ⟨⟨fun t s hs => ?_, fun g hg => ?_⟩, ?_⟩
  · obtain ⟨v, h1, h2⟩ := hF.rel t _ (eqT_ren _ _ e8 t s hs)
    exact ⟨v, by rw [den_ren]; exact h1, h2⟩
  · rw [e1] at hg
    obtain ⟨c, hc⟩ := hF.glob g hg
    exact ⟨c, by simp only [ap_low (Nat.lt_of_lt_of_le hg (e1 ▸ e0))]; exact hc⟩
  · refine ⟨⟨fun g hg => ?_, fun i q hq hi => ?_, by have := hrep.ngn; omega, fun i q hq => ?_, fun i o hio => ?_, fun i j o o' q r hi hj l1 l2 hq hr hqr => ?_⟩, ?_, hI.n0, by have := hI.n1; omega, fun hw i q hi hq => ?_, hI.ng, hI.size⟩
    · obtain ⟨c, hc⟩ := hrep.glob g hg
      exact ⟨c, by simp only [ap_low (Nat.lt_of_lt_of_le hg hng)]; exact hc⟩
    · have hj : C.ng ≤ apL N l i := by
        rcases Nat.lt_or_ge i N with h1 | h1
        · rw [ap_low h1]; exact hi
        · exact Nat.le_trans hng (ap_ge e6 h1)
      obtain ⟨o', ho'⟩ := hrep.has _ q hq hj
      have := allT_ok _ _ _ e10 _ _ ho'
      rw [Nat.one_mul, Nat.add_zero, ap_inv e6 e7] at this
      exact Option.isSome_iff_exists.1 this
    · obtain ⟨h1, h2⟩ := hrep.dom _ q hq
      exact ⟨ap_lt e6 (by rw [e2]; exact h1) e5, h2⟩
    · obtain ⟨_, o', ho', e⟩ := ho i o hio
      obtain ⟨q, hq, hr⟩ := hrep.obj _ _ ho'
      exact ⟨q, hq, objR_ren (by rw [e]; exact hr)⟩
    · obtain ⟨_, p, hp, ep⟩ := ho i o hi
      obtain ⟨_, p', hp', ep'⟩ := ho j o' hj
      have := hrep.inj _ _ p p' q r hp hp' (by rw [← ep, renO_live]; exact l1) (by rw [← ep', renO_live]; exact l2) hq hr hqr
      rw [← ap_inv e6 e7 i, this, ap_inv e6 e7]
    · have st := hI.steps
      rw [e3]
      rw [e3] at e4
      refine ⟨fun i q hq => ?_, fun i hi => ?_, st.size, fun c hc H => st.keep c hc fun i q hi hq => ?_, fun i q hi hq hlt => ?_⟩
      · have := (H0.dom i q hq).1
        simp only [hbelow i this]
        exact st.pre i q hq
      · simp only [hbelow i hi]
        exact st.same i hi
      · refine H (apL N l' i) q ?_ ?_
        · rcases Nat.lt_or_ge i N with h1 | h1
          · rw [ap_low h1]; exact hi
          · exact Nat.le_trans e4 (ap_ge e7 h1)
        · simp only [ap_inv e7 e6]; exact hq
      · refine st.new (apL N l i) q ?_ hq hlt
        rcases Nat.lt_or_ge i N with h1 | h1
        · rw [ap_low h1]; exact hi
        · have := ap_ge e6 h1
          cases hs : σ0 (apL N l i) with
          | none => rfl
          | some z =>
            have := (H0.dom _ z hs).1
            omega
    · refine hI.fresh hw (apL N l i) q ?_ hq
      rcases Nat.lt_or_ge i N with h1 | h1
      · rw [ap_low h1]; exact hi
      · exact Nat.le_trans hbN (ap_ge e6 h1)
theorem alike_ok {C : Cx} {b : St} {σ0 : Env} {h0 : Heap} {n1 N : Nat} {wd : Bool} {x y : (SF × St) × Lg} (ha : alikeS N x y = true) (hbN : b.n ≤ N) (H0 : Rep C.ng b σ0 h0) {σ : Env} {fr : Fr} {h : Heap} (hF : Frm σ y.1.1 fr) (hI : HI C b σ0 h0 n1 wd y.1.2 σ h) :
    ∃ σ', Frm σ' x.1.1 fr ∧ HI C b σ0 h0 n1 wd x.1.2 σ' h := by
  unfold alikeS at ha
  rw [Bool.or_eq_true] at ha
  simp only [forceNs_eq] at ha
  rcases ha with ha | ha
  · rw [sameS_ok _ _ ha]; exact ⟨σ, hF, hI⟩
  · exact ⟨_, iso_ok ha hbN H0 hF hI⟩
end Go.Proofs.YtdielfpgekenkaaGreatDoor.Sx
namespace Go.Proofs.YtdielfpgekenkaaGreatDoor.Sx
open Go Vm
set_option linter.unusedSimpArgs false
set_option linter.unusedVariables false
theorem delK_succ {α β : Type} (l : Tr α) (v : Option α) (r : Tr α) (n : Nat) (k : Tr α → Option β) : Tr.delK (.node l v r) (n + 1) k = if n % 2 = 0 then Tr.delK l (n / 2) (fun l => k (.node l v r)) else Tr.delK r (n / 2) (fun r => k (.node l v r)) := by
  have h : Tr.delK (.node l v r) (n + 1) k = Bool.rec (Tr.delK r (n / 2) fun r => k (.node l v r)) (Tr.delK l (n / 2) fun l => k (.node l v r)) (par n) := rfl
  rw [h, par_eq]
  by_cases e : n % 2 = 0
  · rw [if_pos e, decide_eq_true e]
  · rw [if_neg e, decide_eq_false e]
theorem delK_some {α β : Type} : ∀ (t : Tr α) (n : Nat) (k : Tr α → Option β) (r : β), Tr.delK t n k = some r → ∃ t', k t' = some r ∧ ∀ j, t'.get j = if j = n then none else t.get j
  | .nil, n, k, r, h => ⟨.nil, h, fun j => by rw [get_nil]; split <;> rfl⟩
  | .node l v q, 0, k, r, h => ⟨_, h, fun j => by
      cases j with
      | zero => rfl
      | succ j => rw [if_neg (show ¬ j + 1 = 0 by omega), get_succ, get_succ]⟩
  | .node l v q, n + 1, k, r, h => by
    rw [delK_succ] at h
    split at h
    · rename_i hn
      obtain ⟨t', h1, h2⟩ := delK_some l (n / 2) _ r h
      refine ⟨_, h1, fun j => ?_⟩
      cases j with
      | zero => rw [if_neg (by omega)]; rfl
      | succ j =>
        rw [get_succ, get_succ]
        by_cases hj : j % 2 = 0
        · rw [if_pos hj, if_pos hj, h2]
          by_cases e : j = n
          · subst e; simp
          · rw [if_neg (by omega), if_neg (by omega)]
        · rw [if_neg hj, if_neg hj, if_neg (by omega)]
    · rename_i hn
      obtain ⟨t', h1, h2⟩ := delK_some q (n / 2) _ r h
      refine ⟨_, h1, fun j => ?_⟩
      cases j with
      | zero => rw [if_neg (by omega)]; rfl
      | succ j =>
        rw [get_succ, get_succ]
        by_cases hj : j % 2 = 0
        · rw [if_pos hj, if_pos hj, if_neg (by omega)]
        · rw [if_neg hj, if_neg hj, h2]
          by_cases e : j = n
          · subst e; simp
          · rw [if_neg (by omega), if_neg (by omega)]
theorem resOf_lt {n0 : Nat} : ∀ (l : List Nat) (i k id : Nat), resOf n0 l i k = some id → id < n0 + k + l.length
  | [], _, _, _, h => by simp [resOf] at h
  | x :: l, i, k, id, h => by
    simp only [resOf] at h
    split at h
    · cases h; simp only [List.length_cons]; omega
    · have := resOf_lt l i (k + 1) id h
      simp only [List.length_cons]; omega
theorem resOf_from {n0 : Nat} : ∀ (l : List Nat) (i k id : Nat), resOf n0 l i k = some id → n0 + k ≤ id
  | [], _, _, _, h => by simp [resOf] at h
  | x :: l, i, k, id, h => by
    simp only [resOf] at h
    split at h
    · cases h; omega
    · have := resOf_from l i (k + 1) id h
      omega
theorem resOf_inj {n0 : Nat} : ∀ (l : List Nat) (i j k id : Nat), resOf n0 l i k = some id → resOf n0 l j k = some id → i = j
  | [], _, _, _, _, h, _ => by simp [resOf] at h
  | x :: l, i, j, k, id, h1, h2 => by
    simp only [resOf] at h1 h2
    split at h1
    · rename_i e1
      cases h1
      split at h2
      · rename_i e2; rw [← e1, ← e2]
      · have := resOf_from l j (k + 1) _ h2
        omega
    · split at h2
      · cases h2
        have := resOf_from l i (k + 1) _ h1
        omega
      · exact resOf_inj l i j (k + 1) id h1 h2
theorem resOf_nil (n0 i : Nat) : resOf n0 [] i 0 = none := rfl
/-- a hidden alloc: its block is there, no number stands for it -/
structure HidAt (C : Cx) (all : List Oper) (res : List Nat) (n0 : Nat) (h0 : Heap) (σ : Env) (fr : Fr) (h : Heap) (j q : Nat) : Prop where
  made : ∃ o T ti zv z r d, all[j]? = some o ∧ o.op = .alloc T ∧ o.dst = some d ∧ resOf n0 res j 0 = some r ∧ C.info T = some ti ∧ ti.zero = some zv ∧ ofV zv = some z ∧ onesB (cellsS z) = true ∧ σ r = none ∧
    lk fr d = some (.pointer (some ⟨q, 0, none⟩)) ∧ h[q]? = some (.cells zv.cells T (0, 0))
  old : h0.size ≤ q
  lt : q < h.size
  out : ∀ i x, σ i = some x → x.1 ≠ q
structure HX (C : Cx) (all : List Oper) (res : List Nat) (n0 : Nat) (h0 : Heap) (σ : Env) (fr : Fr) (h : Heap) (hid : List Nat) (qf : Nat → Nat) : Prop where
  nodup : hid.Nodup
  at_ : ∀ j ∈ hid, HidAt C all res n0 h0 σ fr h j (qf j)
  apart : ∀ j ∈ hid, ∀ j' ∈ hid, j ≠ j' → qf j ≠ qf j'
section
variable {C : Cx} (hC : CxOk C) {b st : St} {σ0 σ : Env} {h0 h : Heap} {n1 : Nat} {wd : Bool} {sf : SF} {fr : Fr} {β : Type} {r : β} {all : List Oper} {res : List Nat} {hid : List Nat} {qf : Nat → Nat}
theorem HX.nil {n0 : Nat} : HX C all res n0 h0 σ fr h [] qf := ⟨List.nodup_nil, (fun _ h => by cases h), (fun _ h => by cases h)⟩
theorem HX.ext {n0 : Nat} (X : HX C all res n0 h0 σ fr h hid qf) {h' : Heap} (e : ExtH h h') : HX C all res n0 h0 σ fr h' hid qf :=
  ⟨X.nodup, fun j hj => by
    have a := X.at_ j hj
    obtain ⟨o, T, ti, zv, z, r, d, h1, h2, h3, h4, h5, h6, h7, h8, h9, h10, h11⟩ := a.made
    exact ⟨⟨o, T, ti, zv, z, r, d, h1, h2, h3, h4, h5, h6, h7, h8, h9, h10, by rw [e.block _ a.lt]; exact h11⟩, a.old, Nat.lt_of_lt_of_le a.lt e.size, a.out⟩, X.apart⟩
theorem HX.perm {n0 : Nat} (X : HX C all res n0 h0 σ fr h hid qf) {hid' : List Nat} (p : hid.Perm hid') : HX C all res n0 h0 σ fr h hid' qf :=
  ⟨p.nodup_iff.1 X.nodup, fun j hj => X.at_ j (p.mem_iff.2 hj), fun j hj j' hj' => X.apart j (p.mem_iff.2 hj) j' (p.mem_iff.2 hj')⟩
theorem HX.put {n0 : Nat} (X : HX C all res n0 h0 σ fr h hid qf) {i : Nat} {o : Oper} (ho : all[i]? = some o) (hf : freeD all hid i = true) (v : Value) : HX C all res n0 h0 σ (Vm.put fr o.dst v) h hid qf :=
  ⟨X.nodup, fun j hj => by
    have a := X.at_ j hj
    obtain ⟨p, T, ti, zv, z, r, d, h1, h2, h3, h4, h5, h6, h7, h8, h9, h10, h11⟩ := a.made
    refine ⟨⟨p, T, ti, zv, z, r, d, h1, h2, h3, h4, h5, h6, h7, h8, h9, ?_, h11⟩, a.old, a.lt, a.out⟩
    unfold freeD at hf
    rw [ho] at hf
    have := List.all_eq_true.1 hf j hj
    rw [h1] at this
    have hne := of_decide_eq_true this
    cases hd : o.dst with
    | none => exact h10
    | some d' =>
      rw [h3, hd] at hne
      have hne' : d ≠ d' := fun e => hne (e ▸ rfl)
      unfold Vm.put lk
      rw [if_neg hne']
      exact h10, X.apart⟩
/-- hidden blocks stay hidden, and as they are -/
theorem HX.goes {n0 N : Nat} (X : HX C all res n0 h0 σ fr h hid qf) (hN : n0 + res.length ≤ N) {low : Nat} {σ' : Env} {h' : Heap} (S : Steps N low σ h σ' h') : HX C all res n0 h0 σ' fr h' hid qf :=
  ⟨X.nodup, fun j hj => by
    have a := X.at_ j hj
    obtain ⟨o, T, ti, zv, z, r, d, h1, h2, h3, h4, h5, h6, h7, h8, h9, h10, h11⟩ := a.made
    have out : ∀ i x, σ' i = some x → x.1 ≠ qf j := fun i x hx e => by
      cases hs : σ i with
      | some y =>
        have := S.pre i y hs
        rw [hx] at this; cases this
        exact a.out i x hs e
      | none =>
        obtain ⟨k, y, _, hk, hy⟩ := S.new i x hs hx (by rw [e]; exact a.lt)
        exact a.out k y hk (by rw [hy, e])
    have hr : r < N := by have := resOf_lt res j 0 r h4; omega
    exact ⟨⟨o, T, ti, zv, z, r, d, h1, h2, h3, h4, h5, h6, h7, h8, by rw [S.same r hr]; exact h9, h10, by rw [S.keep _ a.lt fun i x _ hx => out i x hx]; exact h11⟩, a.old, Nat.lt_of_lt_of_le a.lt S.size, out⟩, X.apart⟩
theorem rep_show {ng : Nat} {st' : St} (H : Rep ng st σ h) {r q : Nat} {o : SO} (hr : σ r = none) (hlt : r < st.n) (hn : st'.n = st.n) (hng : ng ≤ r) (hq : q < h.size) (hout : ∀ i x, σ i = some x → x.1 ≠ q)
    (hp : ∀ j, st'.hp.get j = if j = r then some o else st.hp.get j) (ho : objR (upd σ r (q, 0)) (q, 0) h[q]? o) : Rep ng st' (upd σ r (q, 0)) h := by
  have hpre := upd_pre (q, 0) hr
  refine ⟨fun g hg => ?_, fun j x e hj => ?_, by rw [hn]; exact H.ngn, fun j x e => ?_, fun j o' e => ?_, fun j k o1 o2 x y e1 e2 l1 l2 q1 q2 hxy => ?_⟩
  · obtain ⟨c, hc⟩ := H.glob g hg
    exact ⟨c, hpre _ _ hc⟩
  · rw [hp]
    by_cases hj' : j = r
    · exact ⟨o, by rw [if_pos hj']⟩
    · rw [if_neg hj']; rw [upd_other _ _ hj'] at e; exact H.has j x e hj
  · by_cases hj' : j = r
    · subst hj'; rw [upd_same] at e; cases e; exact ⟨by rw [hn]; exact hlt, hq⟩
    · rw [upd_other _ _ hj'] at e; rw [hn]; exact H.dom j x e
  · rw [hp] at e
    by_cases hj' : j = r
    · subst hj'; rw [if_pos rfl] at e; cases e; exact ⟨_, upd_same _ _ _, ho⟩
    · rw [if_neg hj'] at e
      obtain ⟨x, hx, hr'⟩ := H.obj j o' e
      exact ⟨x, hpre _ _ hx, hr'.mono hpre⟩
  · rw [hp] at e1 e2
    by_cases hj : j = r
    · by_cases hk : k = r
      · rw [hj, hk]
      · exfalso
        subst hj
        rw [upd_same] at q1; cases q1
        rw [upd_other _ _ hk] at q2
        exact hout k y q2 hxy.symm
    · by_cases hk : k = r
      · exfalso
        subst hk
        rw [upd_same] at q2; cases q2
        rw [upd_other _ _ hj] at q1
        exact hout j x q1 hxy
      · rw [if_neg hj] at e1
        rw [if_neg hk] at e2
        rw [upd_other _ _ hj] at q1
        rw [upd_other _ _ hk] at q2
        exact H.inj j k o1 o2 x y e1 e2 l1 l2 q1 q2 hxy
/-- all that is known while a head is walked -/
structure HB (C : Cx) (all : List Oper) (res : List Nat) (b : St) (σ0 : Env) (h0 : Heap) (n1 : Nat) (wd : Bool) (hid : List Nat) (sf : SF) (st : St) (σ : Env) (fr : Fr) (h : Heap) : Prop where
  frm : Frm σ sf fr
  hi : HI C b σ0 h0 n1 wd st σ h
  hx : ∃ qf, HX C all res b.n h0 σ fr h hid qf
  res : b.n + res.length ≤ n1
theorem HB.ext (x : HB C all res b σ0 h0 n1 wd hid sf st σ fr h) {h' : Heap} (e : ExtH h h') : HB C all res b σ0 h0 n1 wd hid sf st σ fr h' :=
  ⟨x.frm, x.hi.ext e, by obtain ⟨qf, X⟩ := x.hx; exact ⟨qf, X.ext e⟩, x.res⟩
theorem show_ok {j : Nat} {l : List Nat} (x : HB C all res b σ0 h0 n1 wd (j :: l) sf st σ fr h) {k : SF → St → Option β} (e : C.show all b.n res j sf st k = some r) :
    ∃ sf' st' σ', k sf' st' = some r ∧ HB C all res b σ0 h0 n1 wd l sf' st' σ' fr h ∧ st'.n = st.n := by
  unfold Cx.show at e
  simp only [Option.bind_eq_some_iff] at e
  obtain ⟨rr, hrr, o, ho, e⟩ := e
  obtain ⟨qf, X⟩ := x.hx
  have a := X.at_ j List.mem_cons_self
  obtain ⟨o', T, ti, zv, z, r', d, h1, h2, h3, h4, h5, h6, h7, h8, h9, h10, h11⟩ := a.made
  rw [ho] at h1; cases h1
  rw [hrr] at h4; cases h4
  simp only [h2, h5, h6, h7, h3, Option.bind_some] at e
  obtain ⟨hp, e, hg⟩ := setK_some _ _ _ _ _ _ e
  have hge := resOf_ge _ _ _ _ hrr
  have hlt := resOf_lt _ _ _ _ hrr
  have hn1 := x.hi.n1
  have hr1 := x.res
  obtain ⟨us, hus, hcv⟩ := den_cells (ofV_den (upd σ rr (qf j, 0)) zv z h7)
  have hob : objR (upd σ rr (qf j, 0)) (qf j, 0) h[qf j]? (.row (cellsS z) T none true) := by
    rw [h11, hcv]
    exact objR_new hus h8
  have hrep := rep_show (st' := { st with hp := hp }) x.hi.rep h9 (by omega) rfl (Nat.le_trans x.hi.ng hge) a.lt a.out hg hob
  have hpre := upd_pre (qf j, 0) h9
  have hput : putS sf (some d) (.p rr 0) (fun fr => k fr { st with hp := hp }) = some r := e
  obtain ⟨sf', e2, hF'⟩ := (x.frm.mono hpre).put (d := some d) (s := .p rr 0) (v := .pointer (some ⟨qf j, 0, none⟩)) (by simp only [den, upd_same, Option.map_some]) hput
  have hS := x.hi.steps
  refine ⟨sf', _, upd σ rr (qf j, 0), e2, ⟨⟨fun t s hs => ?_, hF'.glob⟩, ⟨hrep, ⟨hS.pre.trans hpre, fun i hi => ?_, hS.size, fun c hc H => hS.keep c hc fun i q hi hq => ?_, fun i q hi hq hl => ?_⟩, x.hi.n0, x.hi.n1, fun hw i q hi hq => ?_, x.hi.ng, x.hi.size⟩, ⟨qf, ?_⟩, x.res⟩, rfl⟩
  · obtain ⟨v, g1, g2⟩ := hF'.rel t s hs
    refine ⟨v, g1, ?_⟩
    unfold Vm.put lk at g2
    split at g2
    · rename_i et; subst et; rw [h10]; exact g2
    · exact g2
  · rw [upd_other _ _ (by omega)]; exact hS.same i hi
  · exact H i q hi (hpre i q hq)
  · by_cases hir : i = rr
    · subst hir; rw [upd_same] at hq; cases hq; exact absurd hl (by have := a.old; simp only; omega)
    · rw [upd_other _ _ hir] at hq; exact hS.new i q hi hq hl
  · by_cases hir : i = rr
    · subst hir; rw [upd_same] at hq; cases hq; exact a.old
    · rw [upd_other _ _ hir] at hq; exact x.hi.fresh hw i q hi hq
  · refine ⟨(List.nodup_cons.1 X.nodup).2, fun j' hj' => ?_, fun j1 h1' j2 h2' => X.apart j1 (List.mem_cons_of_mem _ h1') j2 (List.mem_cons_of_mem _ h2')⟩
    have hne : j' ≠ j := fun e => (List.nodup_cons.1 X.nodup).1 (e ▸ hj')
    have a' := X.at_ j' (List.mem_cons_of_mem _ hj')
    obtain ⟨o2, T2, ti2, zv2, z2, r2, d2, g1, g2, g3, g4, g5, g6, g7, g8, g9, g10, g11⟩ := a'.made
    have hr2 : r2 ≠ rr := fun e => hne (resOf_inj res j' j 0 rr (e ▸ g4) hrr)
    refine ⟨⟨o2, T2, ti2, zv2, z2, r2, d2, g1, g2, g3, g4, g5, g6, g7, g8, by rw [upd_other _ _ hr2]; exact g9, g10, g11⟩, a'.old, a'.lt, fun i y hy => ?_⟩
    by_cases hir : i = rr
    · subst hir; rw [upd_same] at hy; cases hy
      exact X.apart j List.mem_cons_self j' (List.mem_cons_of_mem _ hj') (Ne.symm hne)
    · rw [upd_other _ _ hir] at hy; exact a'.out i y hy
theorem reveal_ok {w : Nat → Bool} : ∀ (l kept : List Nat) (sf : SF) (st : St) (σ : Env) (k : List Nat → SF → St → Option β), HB C all res b σ0 h0 n1 wd (l ++ kept) sf st σ fr h → C.reveal all b.n res w l kept sf st k = some r →
    ∃ hid' sf' st' σ', k hid' sf' st' = some r ∧ HB C all res b σ0 h0 n1 wd hid' sf' st' σ' fr h ∧ st'.n = st.n
  | [], kept, sf, st, σ, k, x, e => ⟨kept, sf, st, σ, e, x, rfl⟩
  | j :: l, kept, sf, st, σ, k, x, e => by
    unfold Cx.reveal at e
    split at e
    · obtain ⟨sf1, st1, σ1, e1, x1, hn⟩ := show_ok (l := l ++ kept) x e
      obtain ⟨hid', sf', st', σ', e2, x2, hn2⟩ := reveal_ok l kept sf1 st1 σ1 k x1 e1
      exact ⟨hid', sf', st', σ', e2, x2, hn2.trans hn⟩
    · refine reveal_ok l (j :: kept) sf st σ k ⟨x.frm, x.hi, ?_, x.res⟩ e
      obtain ⟨qf, X⟩ := x.hx
      exact ⟨qf, X.perm (List.perm_middle.symm : (j :: (l ++ kept)).Perm (l ++ j :: kept))⟩
include hC in
theorem hide_ok {W : List (Nat × Nat)} {i rr : Nat} (x : HB C all res b σ0 h0 n1 wd hid sf st σ fr h) (hrr : resOf b.n res i 0 = some rr) {k : List Nat → SF → St → Option β} (e : C.hide all i rr hid sf st k = some r) {K : Fr → Heap → Prop}
    (hK : ∀ hid' sf' st' σ' fr' h', k hid' sf' st' = some r → HB C all res b σ0 h0 n1 (wildI W i || wd) hid' sf' st' σ' fr' h' → st'.n = st.n → K fr' h') : evKI C.P all (Keeps W σ0 h0 i) K i fr h := by
  unfold Cx.hide at e
  simp only [Option.bind_eq_some_iff] at e
  obtain ⟨o, ho, e⟩ := e
  unfold evKI
  simp only [ho]
  split at e
  · rename_i T hop
    split at e
    · rename_i hguard
      simp only [Option.bind_eq_some_iff] at e
      obtain ⟨ti, hti, zv, hzv, z, hz, e⟩ := e
      split at e
      · rename_i d hd
        split at e
        · rename_i hc
          simp only [Bool.and_eq_true, Bool.not_eq_true'] at hc
          obtain ⟨⟨⟨hones, hnc⟩, hfree⟩, hnone⟩ := hc
          obtain ⟨t', e, hdel⟩ := delK_some _ _ _ _ e
          unfold gk
          simp only [hguard]
          intro h1 hx1
          have x1 := x.ext hx1
          have hq : C.quietOp o = false := by unfold Cx.quietOp; simp only [hop]
          unfold Vm.opx
          rw [← quiet_eq hC, hq]
          simp only
          unfold Vm.opi
          rw [hC.info] at hti
          simp only [hop, hti, hzv]
          intro h' hN
          refine ⟨⟨by rw [hN.size]; omega, fun c hc2 hlt2 => hN.block c hlt2⟩, fun h3 h23 => ?_⟩
          have x2 := x1.ext hN.ext
          have hge := resOf_ge _ _ _ _ hrr
          have hsn : σ rr = none := by
            cases hs : σ rr with
            | none => rfl
            | some q =>
              obtain ⟨o', ho'⟩ := x.hi.rep.has rr q hs (Nat.le_trans x.hi.ng hge)
              rw [ho'] at hnone; cases hnone
          have hni : i ∉ hid := fun hm => by rw [List.contains_iff_mem.2 hm] at hnc; cases hnc
          suffices x3 : HB C all res b σ0 h0 n1 (wildI W i || wd) (i :: hid) ⟨sf.ng, t'⟩ st σ (Vm.put fr o.dst (.pointer (some ⟨h1.size, 0, none⟩))) h' from hK (i :: hid) ⟨sf.ng, t'⟩ st σ _ h3 e (x3.ext h23) rfl
          refine ⟨⟨fun t s hs => ?_, x2.frm.glob⟩, x2.hi.more _, ?_, x.res⟩
          · have hs' : t'.get t = some s := hs
            rw [hdel] at hs'
            split at hs'
            · cases hs'
            · rename_i hne
              obtain ⟨v, g1, g2⟩ := x2.frm.rel t s hs'
              refine ⟨v, g1, ?_⟩
              unfold Vm.put lk
              rw [hd]
              simp only
              rw [if_neg hne]
              exact g2
          · obtain ⟨qf, X1⟩ := x1.hx
            have X := X1.ext hN.ext
            have Y := X.put ho hfree (.pointer (some ⟨h1.size, 0, none⟩))
            have hlt : ∀ j ∈ hid, qf j < h1.size := fun j hj => (X1.at_ j hj).lt
            refine ⟨fun j => if j = i then h1.size else qf j, List.nodup_cons.2 ⟨hni, X.nodup⟩, fun j hj => ?_, fun j hj j' hj' hne => ?_⟩
            · rcases List.mem_cons.1 hj with rfl | hj
              · simp only [if_true]
                refine ⟨⟨o, T, ti, zv, z, rr, d, ho, hop, hd, hrr, by rw [hC.info]; exact hti, hzv, hz, hones, hsn, ?_, hN.new⟩, x1.hi.size, by rw [hN.size]; omega, fun k y hy => ?_⟩
                · unfold Vm.put lk
                  rw [hd]
                  simp
                · have := (x1.hi.rep.dom k y hy).2
                  omega
              · have hne : j ≠ i := fun e => hni (e ▸ hj)
                simp only [if_neg hne]
                exact Y.at_ j hj
            · rcases List.mem_cons.1 hj with e1 | hm1
              · rcases List.mem_cons.1 hj' with e2 | hm2
                · exact absurd (e1.trans e2.symm) hne
                · have hn2 : j' ≠ i := fun e => hni (e ▸ hm2)
                  simp only [if_pos e1, if_neg hn2]
                  have := hlt j' hm2
                  omega
              · have hn1 : j ≠ i := fun e => hni (e ▸ hm1)
                rcases List.mem_cons.1 hj' with e2 | hm2
                · simp only [if_pos e2, if_neg hn1]
                  have := hlt j hm1
                  omega
                · have hn2 : j' ≠ i := fun e => hni (e ▸ hm2)
                  simp only [if_neg hn1, if_neg hn2]
                  exact X.apart j hm1 j' hm2 hne
        · cases e
      · cases e
    · cases e
  · cases e
end
end Go.Proofs.YtdielfpgekenkaaGreatDoor.Sx
