/-
  The head of a region that draws its order.
  A region that draws its order.
  Code.
-/
import Derived.Test.YtkdmpdbbcgdfkaaGreatDoorJ24
namespace Go.Proofs.YtkdmpdbbcgdfkaaGreatDoor.Sx
open Go Vm
set_option linter.unusedSimpArgs false
set_option linter.unusedVariables false
/-- the head so far: b, σ0, h0: the beginning; n1: behind the numbers that are kept ready -/
structure HI (C : Cx) (b : St) (σ0 : Env) (h0 : Heap) (n1 : Nat) (st : St) (σ : Env) (h : Heap) : Prop where
  rep : Rep C.ng st σ h
  steps : Steps b.n st.low σ0 h0 σ h
  n0 : b.n ≤ n1
  n1 : n1 ≤ st.n
  fresh : ∀ (i : Nat) q, b.n ≤ i → σ i = some q → h0.size ≤ q.1
  ng : C.ng ≤ b.n
  size : h0.size ≤ h.size
theorem HI.ext {C : Cx} {b : St} {σ0 : Env} {h0 : Heap} {n1 : Nat} {st : St} {σ : Env} {h h' : Heap} (x : HI C b σ0 h0 n1 st σ h) (e : ExtH h h') : HI C b σ0 h0 n1 st σ h' :=
  ⟨x.rep.ext e, x.steps.trans (Steps.ext b.n st.low σ e) (Nat.le_refl _) (Nat.le_refl _), x.n0, x.n1, x.fresh, x.ng, Nat.le_trans x.size e.size⟩
theorem Rep.low {ng : Nat} {st : St} {σ : Env} {h : Heap} (H : Rep ng st σ h) (l : Nat) : Rep ng { st with low := l } σ h := ⟨H.glob, H.has, H.ngn, H.dom, H.obj, H.inj⟩
theorem Rep.lown {ng : Nat} {st : St} {σ : Env} {h : Heap} (H : Rep ng st σ h) (l n : Nat) (hn : st.n ≤ n) : Rep ng { st with low := l, n := n } σ h :=
  ⟨H.glob, H.has, Nat.le_trans H.ngn hn, fun i q e => ⟨Nat.lt_of_lt_of_le (H.dom i q e).1 hn, (H.dom i q e).2⟩, H.obj, H.inj⟩
/-- the blocks that operation j keeps -/
def Keeps (W : List (Nat × Nat)) (σ0 : Env) (h0 : Heap) (j b : Nat) : Prop := b < h0.size ∧ ∀ q ∈ W, q.1 = j → ∀ x, σ0 q.2 = some x → x.1 ≠ b
section
variable {C : Cx} (hC : CxOk C) {b st : St} {σ0 σ : Env} {h0 h : Heap} {n1 : Nat} {sf : SF} {fr : Fr} {β : Type} {r : β} {W : List (Nat × Nat)}
/-- a step that turns nothing below -/
theorem HI.step (x : HI C b σ0 h0 n1 st σ h) {st' : St} {σ' : Env} {h' : Heap} (hG : Goes C.ng { st with low := st.n } σ h st' σ' h') (hl : b.n ≤ st'.low) : HI C b σ0 h0 n1 { st' with low := min st.low st'.low } σ' h' ∧ ∀ c, c < h0.size → h'[c]? = h[c]? := by
  have hf : ∀ (i : Nat) q, b.n ≤ i → σ' i = some q → h0.size ≤ q.1 := fun i q hi e => by
    cases hs : σ i with
    | some q' =>
      have := hG.pre i q' hs
      rw [e] at this; cases this
      exact x.fresh i q hi hs
    | none =>
      rcases Nat.lt_or_ge q.1 h.size with hq | hq
      · obtain ⟨j, r, h1, h2, h3⟩ := hG.steps.new i q hs e hq
        rw [← h3]
        exact x.fresh j r (Nat.le_trans hl h1) h2
      · exact Nat.le_trans x.size hq
  have hn1 := x.n1
  have hn0 := x.n0
  have hgn : st.n ≤ st'.n := hG.n
  refine ⟨⟨hG.rep.low _, (x.steps.less (Nat.le_refl _) (Nat.min_le_left _ _)).trans (hG.steps.less (by show b.n ≤ st.n; omega) (Nat.min_le_right _ _)) (Nat.le_refl _) (Nat.le_refl _), x.n0, by show n1 ≤ st'.n; omega, hf, x.ng, Nat.le_trans x.size hG.steps.size⟩, fun c hc => ?_⟩
  refine hG.steps.keep c (Nat.lt_of_lt_of_le hc x.size) fun i q hi e hq => ?_
  have := hf i q (Nat.le_trans hl hi) e
  omega
include hC in
/-- a store, told closer -/
theorem store_to (hF : Frm σ sf fr) (H : Rep C.ng st σ h) {o : Oper} (hst : isStore o = true) {call : Nat → List SV → St → Option (SV × St)} {k : SV → St → Option β} (e : C.opx call o sf st k = some r) {K : Value → Heap → Prop}
    (hK : ∀ s st' v h' id q, k s st' = some r → den σ s = some v → Goes C.ng st σ h st' σ h' → σ id = some q → st'.low = min st.low id → st'.n = st.n → (∀ c, c ≠ q.1 → h'[c]? = h[c]?) → K v h') : Vm.opx C.P o fr h K := by
  unfold isStore at hst
  split at hst
  · rename_i T x y ho
    have hq : C.quietOp o = false := by unfold Cx.quietOp; simp only [ho]
    unfold Cx.opx at e
    simp only [hq] at e
    unfold Vm.opx
    rw [← quiet_eq hC, hq]
    unfold Cx.opi at e
    simp only [ho, Option.bind_eq_some_iff] at e
    obtain ⟨xs, hx, ys, hy, e⟩ := e
    obtain ⟨xv, x1, x2⟩ := evO_ok hF hx
    obtain ⟨yv, y1, y2⟩ := evO_ok hF hy
    split at e
    · rename_i id off
      unfold Cx.storeS at e
      simp only [Option.bind_eq_some_iff] at e
      obtain ⟨⟨l, t, g⟩, hr, s, hs, e⟩ := e
      obtain ⟨i, hi, rfl⟩ := hC.size hs
      split at e
      · rename_i hc
        obtain ⟨c1, c2, c3⟩ := hc
        rw [forceVs_eq] at e
        obtain ⟨us, hus, hcv⟩ := den_cells y2
        have e2 := denL_length _ _ hus
        obtain ⟨q, cur, hq, hb, hle, hw⟩ := row_turn2 H hr hus (onesB_ok _ _ c3 hus) (by rw [c1]; exact c2) (β := β)
        obtain ⟨q', hq', rfl⟩ := den_p x2
        rw [hq] at hq'; cases hq'
        unfold Vm.opi
        simp only [ho, evk_of x1, evk_of y1, hi]
        have fin : ∀ h', Wrote h h' q.1 (splice cur off us) t → K undef h' := fun h' w => by
          rw [← c1] at e
          obtain ⟨st', e', hG, hn, hlow⟩ := hw h' w e
          exact hK undefS st' undef h' id q e' rfl hG hq hlow hn w.block
        unfold storek
        have hones := onesB_ok _ _ c3 hus
        split
        · rename_i cs
          simp only [Value.cells] at hcv
          subst hcv
          refine ⟨cur, t, hb, ⟨by simpa using hle, by simp only [List.size_toArray]; omega, by simpa using hones⟩, fun h' w => fin h' (by simpa using w)⟩
        · simp only [Value.cells] at hcv
          rename_i tv
          have : us = [.tuple tv] := by simpa using hcv.symm
          subst this
          have := hones _ (List.mem_singleton.2 rfl)
          cases this
        · rename_i hna hnt
          have hus1 : us = [yv] := by
            have : yv.cells = #[yv] := by cases yv <;> first | rfl | exact absurd rfl (hna _)
            rw [this] at hcv
            simpa using hcv.symm
          subst hus1
          simp only [List.length_singleton] at hle e2
          rw [if_pos (by omega)]
          refine ⟨cur, t, hb, by omega, fun h' w => fin h' ?_⟩
          have : splice cur off [yv] = cur.set off yv := by
            unfold splice
            rw [List.set_eq_take_append_cons_drop, if_pos (by omega)]
            simp
          rw [this]
          exact w
      · cases e
    · cases e
  · cases hst
theorem resOf_ge {n0 : Nat} : ∀ (l : List Nat) (i k id : Nat), resOf n0 l i k = some id → n0 ≤ id
  | [], _, _, _, h => by simp [resOf] at h
  | x :: l, i, k, id, h => by
    simp only [resOf] at h
    split at h
    · cases h; omega
    · exact resOf_ge l i (k + 1) id h
include hC in
theorem imp_ok {call : Nat → List SV → St → Option (SV × St)} (hcall : CallOk C call) (hF : Frm σ sf fr) (x : HI C b σ0 h0 n1 st σ h) {all : List Oper} {res : List Nat} {i : Nat} {k : SF → St → Option β} (e : C.imp call all W b.n res i sf st k = some r) {K : Fr → Heap → Prop}
    (hK : ∀ sf' st' σ' fr' h', k sf' st' = some r → Frm σ' sf' fr' → HI C b σ0 h0 n1 st' σ' h' → K fr' h') : evKI C.P all (Keeps W σ0 h0 i) K i fr h := by
  unfold Cx.imp at e
  simp only [Option.bind_eq_some_iff] at e
  obtain ⟨o, ho, e⟩ := e
  unfold evKI
  simp only [ho]
  refine gk_ok hF e (fun e => ?_) (fun e => ?_)
  · intro h1 hx
    have x1 := x.ext hx
    have next : ∀ (s : SV) (v : Value) (st' : St) (σ' : Env) (h' : Heap), Pre σ σ' → den σ' s = some v → HI C b σ0 h0 n1 { st' with low := min st.low st'.low } σ' h' →
        (forceN (min st.low st'.low) fun low => putS sf o.dst s fun fr => k fr { st' with low }) = some r → ∀ h3, ExtH h' h3 → K (Vm.put fr o.dst v) h3 := by
      intro s v st' σ' h' hp hv hx' e h3 h23
      rw [forceN_eq] at e
      obtain ⟨sf', e, hF'⟩ := (hF.mono hp).put hv e
      exact hK sf' _ σ' _ h3 e hF' (hx'.ext h23)
    unfold Cx.opr at e
    split at e
    · by_cases hst : isStore o = true
      · refine store_to hC hF (x1.rep.low st.n) hst e fun s st' v h' id q e2 hv hG hq hlow hn hblk => ?_
        split at e2
        · rename_i hc
          have hid := (x1.rep.dom id q hq).1
          have hlow' : st'.low = id := by rw [hlow]; show min st.n id = id; omega
          have hI : HI C b σ0 h0 n1 { st' with low := min st.low st'.low } σ h' := by
            have hn0 := x.n0
            have hn1 := x.n1
            have hsz := hG.steps.size
            exact ⟨hG.rep.low _, (x1.steps.less (Nat.le_refl _) (Nat.min_le_left _ _)).trans (hG.steps.less (by show b.n ≤ st.n; omega) (Nat.min_le_right _ _)) (Nat.le_refl _) (Nat.le_refl _), x.n0, by show n1 ≤ st'.n; rw [hn]; exact hn1, x.fresh, x.ng, Nat.le_trans x1.size hsz⟩
          refine ⟨⟨hG.steps.size, fun c hc2 hlt => hblk c fun ec => ?_⟩, next s v st' σ h' (Pre.refl _) hv hI e2⟩
          subst ec
          rcases Nat.lt_or_ge id b.n with hb | hb
          · simp only [Bool.or_eq_true, Nat.ble_eq, Bool.and_eq_true, List.any_eq_true, decide_eq_true_eq] at hc
            rcases hc with hc | ⟨_, w, hw, hw1, hw2⟩
            · omega
            · have hs := x.steps.same id hb
              refine hc2.2 w hw hw1 q ?_ rfl
              rw [hw2, hlow', ← hs]
              exact hq
          · have := x.fresh id q hb hq
            have := hc2.1
            omega
        · cases e2
      · refine opx_ok hC hcall hF (x1.rep.low st.n) e fun s st' σ' v h' e2 hv hG => ?_
        split at e2
        · rename_i hc
          have hl : b.n ≤ st'.low := by
            simp only [Bool.or_eq_true, Nat.ble_eq, Bool.and_eq_true] at hc
            rcases hc with hc | hc
            · exact hc
            · exact absurd hc.1 hst
          obtain ⟨hI, hkeep⟩ := x1.step hG hl
          exact ⟨⟨hG.steps.size, fun c hc2 hlt => hkeep c hc2.1⟩, next s v st' σ' h' hG.pre hv hI e2⟩
        · cases e2
    · rename_i id hres
      split at e
      · rename_i T hop
        split at e
        · rename_i hlt
          split at e
          · rename_i hnone
            simp only [Option.bind_eq_some_iff, hC.info] at e
            obtain ⟨ti, hti, zv, hzv, z, hz, e⟩ := e
            split at e
            · rename_i hones
              obtain ⟨hp, e, hg⟩ := setK_some _ _ _ _ _ _ e
              have hge := resOf_ge _ _ _ _ hres
              have hsn : σ id = none := by
                cases hs : σ id with
                | none => rfl
                | some q =>
                  obtain ⟨o', ho'⟩ := x.rep.has id q hs (Nat.le_trans x.ng hge)
                  rw [hnone] at ho'; cases ho'
              have hq : C.quietOp o = false := by unfold Cx.quietOp; simp only [hop]
              obtain ⟨us, hus, hcv⟩ := den_cells (ofV_den σ zv z hz)
              unfold Vm.opx
              rw [← quiet_eq hC, hq]
              simp only
              unfold Vm.opi
              simp only [hop, hti, hzv]
              intro h' hN
              rw [hcv] at hN
              have hlt' : id < st.n := by simpa using hlt
              have hrep := (x1.rep.low st.n).put_new (st' := { st with low := st.n, hp := hp }) (cap := 0) hsn hlt' (Nat.le_refl _) (Nat.le_trans x.ng hge) rfl hg hN rfl (objR_new (denL_mono (upd_pre _ hsn) _ _ hus) hones)
              have hn0 := x.n0
              have hn1 := x.n1
              split at e
              · have hI : HI C b σ0 h0 n1 { ({ st with low := st.n, hp := hp } : St) with low := min st.low st.n } (upd σ id (h1.size, 0)) h' := by
                  refine ⟨hrep.low _, (x1.steps.less (Nat.le_refl _) (Nat.min_le_left _ _)).trans (steps_new (n := b.n) (low := min st.low st.n) hsn hge hN) (Nat.le_refl _) (Nat.le_refl _), x.n0, x.n1, fun j q hj hq => ?_, x.ng, by rw [hN.size]; exact Nat.le_succ_of_le x1.size⟩
                  by_cases hji : j = id
                  · subst hji; rw [upd_same] at hq; cases hq; exact x1.size
                  · rw [upd_other _ _ hji] at hq; exact x.fresh j q hj hq
                exact ⟨⟨by rw [hN.size]; omega, fun c hc2 hlt2 => hN.block c hlt2⟩, next (.p id 0) _ { st with low := st.n, hp := hp } _ h' (upd_pre _ hsn) (by simp only [den, upd_same, Option.map_some]) hI e⟩
              · cases e
            · cases e
          · cases e
        · cases e
      · cases e
  · intro h3 hx
    obtain ⟨sf', e, hF'⟩ := hF.put (den_undef σ) e
    exact hK sf' st σ _ h3 e hF' (x.ext hx)
end
end Go.Proofs.YtkdmpdbbcgdfkaaGreatDoor.Sx
namespace Go.Proofs.YtkdmpdbbcgdfkaaGreatDoor.Sx
open Go Vm
set_option linter.unusedSimpArgs false
set_option linter.unusedVariables false
section
variable {C : Cx} (hC : CxOk C) {b st : St} {σ0 σ : Env} {h0 h : Heap} {n1 : Nat} {sf : SF} {fr : Fr} {β : Type} {r : β} {W : List (Nat × Nat)}
theorem killS_ok : ∀ (l : List Nat) (st : St) (k : St → Option β), killS l st k = some r → ∃ st', k st' = some r ∧ st'.n = st.n ∧ st'.low = st.low ∧
    (∀ j, j ∉ l → st'.hp.get j = st.hp.get j) ∧ ∀ j, j ∈ l → st'.hp.get j = some .dead ∧ ∃ o, st.hp.get j = some o ∧ o.live = true
  | [], st, k, e => ⟨st, e, rfl, rfl, fun _ _ => rfl, fun _ h => by cases h⟩
  | w :: l, st, k, e => by
    unfold killS at e
    split at e
    · rename_i l' t g wr hw
      obtain ⟨hp, e, hg⟩ := setK_some _ _ _ _ _ _ e
      obtain ⟨st', h1, h2, h3, h4, h5⟩ := killS_ok l _ k e
      simp only at h2 h3 h4 h5
      refine ⟨st', h1, h2, h3, fun j hj => ?_, fun j hj => ?_⟩
      · simp only [List.mem_cons, not_or] at hj
        rw [h4 j hj.2, hg, if_neg hj.1]
      · simp only [List.mem_cons] at hj
        by_cases hjl : j ∈ l
        · obtain ⟨g1, o, g2, g3⟩ := h5 j hjl
          rw [hg] at g2
          split at g2
          · cases g2; cases g3
          · exact ⟨g1, o, g2, g3⟩
        · rcases hj with rfl | hj
          · exact ⟨by rw [h4 j hjl, hg, if_pos rfl], _, hw, rfl⟩
          · exact absurd hj hjl
    · cases e
/-- what a quiet operation may look at -/
def Looks (W : List (Nat × Nat)) (p : Nat × Nat → Bool) (σ0 : Env) (h0 : Heap) (c : Nat) : Prop := c < h0.size ∧ ∀ q ∈ W, p q = true → ∀ x, σ0 q.2 = some x → x.1 ≠ c
theorem rep_killed {p : Nat × Nat → Bool} (H : Rep C.ng b σ0 h0) {stW : St} (hn : stW.n = b.n) (h4 : ∀ j, j ∉ (W.filter p).map (·.2) → stW.hp.get j = b.hp.get j) (h5 : ∀ j, j ∈ (W.filter p).map (·.2) → stW.hp.get j = some .dead ∧ ∃ o, b.hp.get j = some o ∧ o.live = true)
    {h1 : Heap} (e : ExtP (Looks W p σ0 h0) h0 h1) : Rep C.ng stW σ0 h1 := by
  have back : ∀ j o, stW.hp.get j = some o → o.live = true → j ∉ (W.filter p).map (·.2) ∧ b.hp.get j = some o := fun j o ho hl => by
    by_cases hj : j ∈ (W.filter p).map (·.2)
    · rw [(h5 j hj).1] at ho; cases ho; cases hl
    · exact ⟨hj, by rw [← h4 j hj]; exact ho⟩
  refine ⟨H.glob, fun j q hq hj => ?_, by rw [hn]; exact H.ngn, fun j q hq => ⟨by rw [hn]; exact (H.dom j q hq).1, Nat.lt_of_lt_of_le (H.dom j q hq).2 e.size⟩, fun j o ho => ?_, fun i j o o' q r' hi hj l1 l2 q1 q2 hqr => ?_⟩
  · by_cases hjl : j ∈ (W.filter p).map (·.2)
    · exact ⟨_, (h5 j hjl).1⟩
    · rw [h4 j hjl]; exact H.has j q hq hj
  · by_cases hl : o.live = true
    · obtain ⟨g1, g2⟩ := back j o ho hl
      obtain ⟨q, hq, hr⟩ := H.obj j o g2
      refine ⟨q, hq, ?_⟩
      rw [e.block q.1 ⟨(H.dom j q hq).2, fun w hw hp x hx ex => ?_⟩ (H.dom j q hq).2]
      · exact hr
      · have hwm : w.2 ∈ (W.filter p).map (·.2) := List.mem_map.2 ⟨w, List.mem_filter.2 ⟨hw, hp⟩, rfl⟩
        obtain ⟨_, o2, g3, g4⟩ := h5 w.2 hwm
        have := H.inj j w.2 o o2 q x g2 g3 hl g4 hq hx ex.symm
        exact g1 (this ▸ hwm)
    · have hd : o = .dead := by cases o <;> first | rfl | exact absurd rfl hl
      subst hd
      by_cases hjl : j ∈ (W.filter p).map (·.2)
      · obtain ⟨_, o2, g3, _⟩ := h5 j hjl
        obtain ⟨q, hq, _⟩ := H.obj j o2 g3
        exact ⟨q, hq, trivial⟩
      · rw [h4 j hjl] at ho
        obtain ⟨q, hq, _⟩ := H.obj j _ ho
        exact ⟨q, hq, trivial⟩
  · exact H.inj i j o o' q r' (back i o hi l1).2 (back j o' hj l2).2 l1 l2 q1 q2 hqr
mutual
theorem den_flat : ∀ (s : SV), flatB s = true → ∃ v, ∀ σ, den σ s = some v
  | .b x, _ => ⟨_, fun _ => rfl⟩
  | .i k n, _ => ⟨_, fun _ => rfl⟩
  | .s l, h => ⟨_, fun _ => den_str h⟩
  | .p _ _, h => by simp [flatB] at h
  | .pn, _ => ⟨_, fun _ => rfl⟩
  | .sl _ _ _ _, h => by simp [flatB] at h
  | .sg _ _ _ _, h => by simp [flatB] at h
  | .se _ _ _ _ _, h => by simp [flatB] at h
  | .sn, _ => ⟨_, fun _ => rfl⟩
  | .m _, h => by simp [flatB] at h
  | .mn, _ => ⟨_, fun _ => rfl⟩
  | .f _ _ _, h => by simp [flatB] at h
  | .nf, _ => ⟨_, fun _ => rfl⟩
  | .ifc t x, h => by
    obtain ⟨v, hv⟩ := den_flat x h
    exact ⟨.iface t v, fun σ => by simp only [den, hv σ, Option.map_some]⟩
  | .nifc, _ => ⟨_, fun _ => rfl⟩
  | .agg l, h => by
    obtain ⟨v, hv⟩ := den_flats l h
    exact ⟨.agg v.toArray, fun σ => by simp only [den, hv σ, Option.map_some]⟩
  | .tup l, h => by
    obtain ⟨v, hv⟩ := den_flats l h
    exact ⟨.tuple v.toArray, fun σ => by simp only [den, hv σ, Option.map_some]⟩
theorem den_flats : ∀ (l : List SV), flatBs l = true → ∃ v, ∀ σ, denL σ l = some v
  | [], _ => ⟨_, fun _ => rfl⟩
  | s :: r, h => by
    simp only [flatBs, Bool.and_eq_true] at h
    obtain ⟨v, hv⟩ := den_flat s h.1
    obtain ⟨vs, hvs⟩ := den_flats r h.2
    exact ⟨v :: vs, fun σ => by simp only [denL, hv σ, hvs σ, Option.bind_some, Option.map_some]⟩
end
include hC in
theorem opc_ok {call : Nat → List SV → St → Option (SV × St)} (hcall : CallOk C call) (hF : Frm σ sf fr) (hpre : Pre σ0 σ) (hsame : ∀ i, i < b.n → σ i = σ0 i) (hdom : ∀ i q, σ0 i = some q → i < b.n) {stW : St} {S : Nat → Prop} (hrep : ∀ h1, ExtP S h0 h1 → Rep C.ng stW σ0 h1) {o : Oper} {k : SV → Option β} (e : C.opc call o b.n sf stW k = some r) :
    ∃ v s, k s = some r ∧ den σ s = some v ∧ ∀ h1, ExtP S h0 h1 → Vm.opqc C.P o fr h1 fun u => u = v := by
  unfold Cx.opc at e
  split at e
  · rename_i hq
    simp only [Option.bind_eq_some_iff] at e
    obtain ⟨s, hs, e⟩ := e
    obtain ⟨v, hv, _⟩ := opq_ok hC hF ((hrep h0 (ExtP.refl _ _)).obs hpre) hs
    refine ⟨v, s, e, hv, fun h1 hx => ?_⟩
    obtain ⟨v', hv', hk⟩ := opq_ok hC hF ((hrep h1 hx).obs hpre) hs
    rw [hv] at hv'; cases hv'
    unfold Vm.opqc
    rw [← quiet_eq hC, hq]
    exact hk _ rfl
  · rename_i hq
    split at e
    · rename_i c ho
      split at e
      · rename_i f hc
        simp only [Option.bind_eq_some_iff] at e
        obtain ⟨fv, hf, e⟩ := e
        obtain ⟨u, u1, u2⟩ := evO_ok hF hf
        split at e
        · rename_i g first cap
          simp only [Option.bind_eq_some_iff] at e
          obtain ⟨vs, hvs, e⟩ := e
          obtain ⟨us, v1, v2⟩ := evOs_ok hF _ _ hvs
          split at e
          · rename_i hbl
            simp only [Option.bind_eq_some_iff] at e
            obtain ⟨⟨s, st'⟩, hcl, e⟩ := e
            split at e
            · rename_i hcond
              simp only [Bool.and_eq_true, Nat.ble_eq] at hcond
              obtain ⟨v, hv⟩ := den_flat s hcond.2
              obtain ⟨x, y, h1, h2, rfl⟩ := den_f u2
              have hall := denL_append _ _ _ _ (denL_append _ _ _ _ h1 v2) h2
              rw [denL_below hsame _ hbl] at hall
              refine ⟨v, s, e, hv σ, fun h1 hx => ?_⟩
              unfold Vm.opqc
              rw [← quiet_eq hC, hq]
              simp only [ho, hc, evk_of u1]
              refine ⟨us, v1, v, fun h2 hx2 => ?_, rfl⟩
              have hfx := hcall _ _ _ _ _ hcl σ0 h2 _ ((hrep h1 hx).ext hx2) hall
              have : (x.toArray ++ us.toArray ++ y.toArray) = (x ++ us ++ y).toArray := by simp
              rw [this]
              refine hfx.mono fun w h3 ⟨σ', hd, hG⟩ => ?_
              rw [hv σ'] at hd; cases hd
              exact ⟨rfl, hG.steps.only fun i q hi => Nat.lt_of_lt_of_le (hdom i q hi) hcond.1⟩
            · cases e
          · cases e
        · cases e
      · cases e
    · cases e
theorem waits_free {all : List Oper} {i j : Nat} (hf : Free .any all.toArray i j) : waitsS all j i = false := by
  obtain ⟨oj, ho, hne, hall⟩ := hf
  have ho' : all[j]? = some oj := by simpa using ho
  unfold waitsS
  rw [ho']
  simp only [List.any_eq_false, Bool.and_eq_true, decide_eq_true_eq, not_and]
  exact fun e he hb => hall e (by simpa using he) hb
include hC in
theorem head_ok {call : Nat → List SV → St → Option (SV × St)} (hcall : CallOk C call) (H0 : Rep C.ng b σ0 h0) {all : List Oper} {res : List Nat} {sfE : SF} {stE : St} (hn1 : b.n ≤ n1) : ∀ (t : Tree) (dn : List Nat) (sf : SF) (st : St) (σ : Env) (fr : Fr) (h : Heap),
    C.headT call all W { b with low := n1, n := n1 } b.n res t dn sf st = some (sfE, stE) → Frm σ sf fr → HI C b σ0 h0 n1 st σ h → ∀ U : Nat → Prop, (∀ c, c < h0.size → (∀ j ∈ dn, Keeps W σ0 h0 j c) → U c) →
    ∀ L : Fr → Heap → Prop, (∀ σ' fr' h', Frm σ' sfE fr' → HI C b σ0 h0 n1 stE σ' h' → L fr' h') → Vm.evL C.P all (Keeps W σ0 h0) h0 L t U fr h
  | .leaf, dn, sf, st, σ, fr, h, e, hF, x, U, hU, L, hL => by
    simp only [Cx.headT, Option.some.injEq, Prod.mk.injEq] at e
    obtain ⟨rfl, rfl⟩ := e
    exact fun h' hx => hL σ fr h' hF (x.ext hx)
  | .q i t, dn, sf, st, σ, fr, h, e, hF, x, U, hU, L, hL => by
    unfold Cx.headT at e
    simp only [Option.bind_eq_some_iff] at e
    obtain ⟨o, ho, e⟩ := e
    unfold Vm.evL
    simp only [ho]
    refine gk_ok hF e (fun e => ?_) (fun e => ?_)
    · obtain ⟨stW, e, hkn, hkl, h4, h5⟩ := killS_ok _ _ _ e
      have hrep := fun h1 (hx : ExtP (Looks W (fun q => !waitsS all q.1 i || dn.contains q.1) σ0 h0) h0 h1) => rep_killed (b := { b with low := n1, n := n1 }) (H0.lown n1 n1 hn1) hkn h4 h5 hx
      obtain ⟨v, s, e, hv, hq⟩ := opc_ok hC hcall hF x.steps.pre x.steps.same (fun i q hi => (H0.dom i q hi).1) hrep e
      obtain ⟨sf', e, hF'⟩ := hF.put hv e
      refine ⟨v, _, fun j hj c hc => ⟨hc.1, fun q hqW hqj => hc.2 q hqW ?_⟩, fun c hc => hU c hc.1 fun j hj => ⟨hc.1, fun q hqW hqj => hc.2 q hqW ?_⟩, hq, head_ok hcall H0 hn1 t dn sf' st σ _ h e hF' x U hU L hL⟩
      · simp only [hqj, waits_free hj]; rfl
      · simp [hqj, hj]
    · obtain ⟨sf', e, hF'⟩ := hF.put (den_undef σ) e
      exact head_ok hcall H0 hn1 t dn sf' st σ _ h e hF' x U hU L hL
  | .i1 i t, dn, sf, st, σ, fr, h, e, hF, x, U, hU, L, hL =>
    imp_ok hC hcall hF x (by unfold Cx.headT at e; exact e) fun sf' st' σ' fr' h' e' hF' x' => head_ok hcall H0 hn1 t (i :: dn) sf' st' σ' fr' h' e' hF' x' _ (fun c hc hj => ⟨hU c hc fun j hj' => hj j (List.mem_cons_of_mem _ hj'), hj i List.mem_cons_self⟩) L hL
  | .i2 i s j t, dn, sf, st, σ, fr, h, e, hF, x, U, hU, L, hL => by
    unfold Cx.headT andS at e
    simp only [Option.bind_eq_some_iff] at e
    obtain ⟨y, e1, z, e2, e⟩ := e
    split at e
    · rename_i hs
      cases e
      have := sameS_ok _ _ hs
      subst this
      exact ⟨imp_ok hC hcall hF x e1 fun sf' st' σ' fr' h' e' hF' x' => head_ok hcall H0 hn1 s (i :: dn) sf' st' σ' fr' h' e' hF' x' _ (fun c hc hj => ⟨hU c hc fun j hj' => hj j (List.mem_cons_of_mem _ hj'), hj i List.mem_cons_self⟩) L hL,
        imp_ok hC hcall hF x e2 fun sf' st' σ' fr' h' e' hF' x' => head_ok hcall H0 hn1 t (j :: dn) sf' st' σ' fr' h' e' hF' x' _ (fun c hc hj' => ⟨hU c hc fun l hl => hj' l (List.mem_cons_of_mem _ hl), hj' j List.mem_cons_self⟩) L hL⟩
    · cases e
  | .i3 i s j t k u, dn, sf, st, σ, fr, h, e, hF, x, U, hU, L, hL => by
    unfold Cx.headT andS at e
    simp only [Option.bind_eq_some_iff] at e
    obtain ⟨y, e1, z, e2, z2, e3, e⟩ := e
    split at e
    · rename_i hs
      cases e
      simp only [Bool.and_eq_true] at hs
      have := sameS_ok _ _ hs.1
      subst this
      have := sameS_ok _ _ hs.2
      subst this
      exact ⟨imp_ok hC hcall hF x e1 fun sf' st' σ' fr' h' e' hF' x' => head_ok hcall H0 hn1 s (i :: dn) sf' st' σ' fr' h' e' hF' x' _ (fun c hc hj => ⟨hU c hc fun j hj' => hj j (List.mem_cons_of_mem _ hj'), hj i List.mem_cons_self⟩) L hL,
        imp_ok hC hcall hF x e2 fun sf' st' σ' fr' h' e' hF' x' => head_ok hcall H0 hn1 t (j :: dn) sf' st' σ' fr' h' e' hF' x' _ (fun c hc hj' => ⟨hU c hc fun l hl => hj' l (List.mem_cons_of_mem _ hl), hj' j List.mem_cons_self⟩) L hL,
        imp_ok hC hcall hF x e3 fun sf' st' σ' fr' h' e' hF' x' => head_ok hcall H0 hn1 u (k :: dn) sf' st' σ' fr' h' e' hF' x' _ (fun c hc hj' => ⟨hU c hc fun l hl => hj' l (List.mem_cons_of_mem _ hl), hj' k List.mem_cons_self⟩) L hL⟩
    · cases e
end
end Go.Proofs.YtkdmpdbbcgdfkaaGreatDoor.Sx
namespace Go.Proofs.YtkdmpdbbcgdfkaaGreatDoor.Sx
open Go Vm
set_option linter.unusedSimpArgs false
set_option linter.unusedVariables false
def okRegion (C : Cx) (f n id : Nat) (ops : Array Oper) (draw : Bool) : Bool :=
  dstsB n ops.toList && match draw with
    | false => true
    | true => match C.tab f id with
      | some T => regT ops T.m T.t
      | none => true
def okCode (C : Cx) (f n : Nat) : Code → Bool
  | .region id ops draw => okRegion C f n id ops draw
  | .seq a b => okCode C f n a && okCode C f n b
  | .cond _ a b => okCode C f n a && okCode C f n b
  | .block _ c => okCode C f n c
  | .loop c => okCode C f n c
  | _ => true
def exOf : SX → Exit
  | .normal => .normal
  | .exit id => .exit id
  | .ret => .ret
section
variable {C : Cx} (hC : CxOk C) (hm : C.P.follows .mixedOrders = true) {β : Type} {r : β} {ds : List Deferred}
theorem wset_ok {call : Nat → List SV → St → Option (SV × St)} {ops : List Oper} {T : Tab} {n1 : Nat} {fr : SF} {st : St} {k : List (Nat × Nat) → Option β} (e : C.wset call ops T n1 fr st k = some r) : ∃ W, k W = some r := by
  unfold Cx.wset at e
  split at e
  · exact ⟨_, e⟩
  · unfold andS at e
    simp only [Option.bind_eq_some_iff] at e
    obtain ⟨_, _, e⟩ := e
    exact ⟨_, e⟩
include hC hm in
theorem region_ok {call : Nat → List SV → St → Option (SV × St)} (hcall : CallOk C call) {f n id : Nat} {ops : Array Oper} {draw : Bool} (hok : okRegion C f n id ops draw = true) {sf : SF} {st : St} {σ : Env} {fr : Fr} {h : Heap} {k : SF → St → Option β}
    (e : C.region call f id ops.toList draw sf st k = some r) (hF : Frm σ sf fr) (H : Rep C.ng st σ h) {Q : Exit → Fr → Heap → Prop} (hQ : ∀ sf' st' σ' fr' h', k sf' st' = some r → Frm σ' sf' fr' → Goes C.ng st σ h st' σ' h' → Q .normal fr' h') :
    CwD ds C.P n (.region id ops draw) Q fr h := by
  unfold okRegion at hok
  simp only [Bool.and_eq_true] at hok
  obtain ⟨hd, hok⟩ := hok
  unfold Cx.region at e
  cases draw with
  | false => exact cw_region hd (ops_ok hC hcall ops.toList sf st σ fr h k e hF H _ hQ)
  | true =>
    simp only [Option.bind_eq_some_iff] at e
    obtain ⟨T, hT, e⟩ := e
    simp only [hT] at hok
    rw [forceN_eq] at e
    obtain ⟨W, e⟩ := wset_ok e
    unfold andS at e
    simp only [Option.bind_eq_some_iff] at e
    obtain ⟨⟨sfE, stE⟩, eh, e⟩ := e
    rw [forceN_eq] at e
    have hn1 : st.n ≤ st.n + T.res.length := Nat.le_add_right _ _
    have x0 : HI C st σ h (st.n + T.res.length) { st with low := st.n + T.res.length, n := st.n + T.res.length } σ h :=
      ⟨H.lown _ _ hn1, Steps.refl _ _ _ _, hn1, Nat.le_refl _, fun i q hi e => by have := (H.dom i q e).1; omega, H.ngn, Nat.le_refl _⟩
    refine cw_turns hm T.m (Keeps W σ h) T.t hok hd ?_
    refine head_ok hC hcall H hn1 T.t [] sf _ σ fr h eh hF x0 _ (fun _ _ _ => trivial) _ fun σ' fr' h' hF' x => ?_
    have hG : Goes C.ng st σ h { stE with low := min st.low stE.low } σ' h' :=
      ⟨x.rep.low _, x.steps.less (Nat.le_refl _) (Nat.min_le_right _ _), Nat.min_le_left _ _, by have := x.n0; have := x.n1; show st.n ≤ stE.n; omega⟩
    exact ops_ok hC hcall _ sfE _ σ' fr' h' k e hF' hG.rep _ fun sf2 st2 σ2 fr2 h2 e2 hF2 hG2 => hQ sf2 st2 σ2 fr2 h2 e2 hF2 (hG.trans hG2)
include hC hm in
theorem code_ok {call : Nat → List SV → St → Option (SV × St)} (hcall : CallOk C call) {f n fuel : Nat} : ∀ (c : Code) (sf : SF) (st : St) (σ : Env) (fr : Fr) (h : Heap) (k : SX → SF → St → Option β), okCode C f n c = true → C.code call f fuel c sf st k = some r → Frm σ sf fr → Rep C.ng st σ h →
    ∀ Q : Exit → Fr → Heap → Prop, (∀ e sf' st' σ' fr' h', k e sf' st' = some r → Frm σ' sf' fr' → Goes C.ng st σ h st' σ' h' → Q (exOf e) fr' h') → CwD ds C.P n c Q fr h
  | .skip, sf, st, σ, fr, h, k, hok, e, hF, H, Q, hQ => cw_skip (hQ .normal sf st σ fr h e hF (Goes.refl H))
  | .region id ops draw, sf, st, σ, fr, h, k, hok, e, hF, H, Q, hQ => region_ok hC hm hcall hok e hF H fun sf' st' σ' fr' h' e hF' hG => hQ .normal sf' st' σ' fr' h' e hF' hG
  | .seq a b, sf, st, σ, fr, h, k, hok, e, hF, H, Q, hQ => by
    simp only [okCode, Bool.and_eq_true] at hok
    refine cw_seq (code_ok hcall a sf st σ fr h _ hok.1 e hF H _ fun x sf' st' σ' fr' h' e hF' hG => ?_)
    cases x with
    | normal => exact code_ok hcall b sf' st' σ' fr' h' k hok.2 e hF' hG.rep Q fun y sf2 st2 σ2 fr2 h2 e2 hF2 hG2 => hQ y sf2 st2 σ2 fr2 h2 e2 hF2 (hG.trans hG2)
    | exit id => exact hQ (.exit id) sf' st' σ' fr' h' e hF' hG
    | ret => exact hQ .ret sf' st' σ' fr' h' e hF' hG
  | .cond c x y, sf, st, σ, fr, h, k, hok, e, hF, H, Q, hQ => by
    simp only [okCode, Bool.and_eq_true] at hok
    unfold Cx.code at e
    simp only [Option.bind_eq_some_iff] at e
    obtain ⟨cs, hc, e⟩ := e
    obtain ⟨cv, c1, c2⟩ := evO_ok hF hc
    split at e
    · rw [den_b c2] at c1
      exact cw_true c1 (code_ok hcall x sf st σ fr h k hok.1 e hF H Q hQ)
    · rw [den_b c2] at c1
      exact cw_false c1 (code_ok hcall y sf st σ fr h k hok.2 e hF H Q hQ)
    · cases e
  | .block id c, sf, st, σ, fr, h, k, hok, e, hF, H, Q, hQ => by
    simp only [okCode] at hok
    refine cw_block (code_ok hcall c sf st σ fr h _ hok e hF H _ fun x sf' st' σ' fr' h' e hF' hG => ?_)
    cases x with
    | normal => exact hQ .normal sf' st' σ' fr' h' e hF' hG
    | exit id' =>
      simp only at e
      simp only [exOf, blockQ]
      split at e
      · rename_i he
        rw [if_pos he]
        exact hQ .normal sf' st' σ' fr' h' e hF' hG
      · rename_i he
        rw [if_neg he]
        exact hQ (.exit id') sf' st' σ' fr' h' e hF' hG
    | ret => exact hQ .ret sf' st' σ' fr' h' e hF' hG
  | .loop c, sf, st, σ, fr, h, k, hok, e, hF, H, Q, hQ => by
    simp only [okCode] at hok
    unfold Cx.code at e
    refine cw_iter (I := fun m fr' h' => ∃ sf' st' σ', iter (C.code call f fuel c) m sf' st' k = some r ∧ Frm σ' sf' fr' ∧ Goes C.ng st σ h st' σ' h') (fun m fr' h' => ?_) ⟨sf, st, σ, e, hF, Goes.refl H⟩
    rintro ⟨sf', st', σ', e, hF', hG⟩
    cases m with
    | zero => simp [iter] at e
    | succ m =>
      unfold iter at e
      refine code_ok hcall c sf' st' σ' fr' h' _ hok e hF' hG.rep _ fun x sf2 st2 σ2 fr2 h2 e hF2 hG2 => ?_
      cases x with
      | normal => exact ⟨m, Nat.lt_succ_self m, sf2, st2, σ2, e, hF2, hG.trans hG2⟩
      | exit id => exact hQ (.exit id) sf2 st2 σ2 fr2 h2 e hF2 (hG.trans hG2)
      | ret => exact hQ .ret sf2 st2 σ2 fr2 h2 e hF2 (hG.trans hG2)
  | .exit id, sf, st, σ, fr, h, k, hok, e, hF, H, Q, hQ => cw_exit (hQ (.exit id) sf st σ fr h e hF (Goes.refl H))
  | .ret, sf, st, σ, fr, h, k, hok, e, hF, H, Q, hQ => cw_ret (hQ .ret sf st σ fr h e hF (Goes.refl H))
  | .rangeFunc _ _ _ _, sf, st, σ, fr, h, k, hok, e, hF, H, Q, hQ => by simp [Cx.code] at e
  | .scope _, sf, st, σ, fr, h, k, hok, e, hF, H, Q, hQ => by simp [Cx.code] at e
  | .label _, sf, st, σ, fr, h, k, hok, e, hF, H, Q, hQ => by simp [Cx.code] at e
  | .goto _, sf, st, σ, fr, h, k, hok, e, hF, H, Q, hQ => by simp [Cx.code] at e
  | .refuse _, sf, st, σ, fr, h, k, hok, e, hF, H, Q, hQ => by simp [Cx.code] at e
/-! ### functions -/
theorem argsS_ok {σ : Env} : ∀ (l : List SV) (i : Nat) (sf : SF) (k : SF → Option β), argsS l i sf k = some r → ∃ sf', k sf' = some r ∧ sf'.ng = sf.ng ∧ ∀ t s, sf'.get t = some s → (i ≤ t ∧ l[t - i]? = some s) ∨ sf.get t = some s
  | [], i, sf, k, e => ⟨sf, e, rfl, fun t s h => .inr h⟩
  | v :: l, i, sf, k, e => by
    unfold argsS putS at e
    simp only [forceV_eq] at e
    obtain ⟨t', e, hg⟩ := setK_some _ _ _ _ _ _ e
    obtain ⟨sf', h1, h2, h3⟩ := argsS_ok (σ := σ) l (i + 1) _ k e
    refine ⟨sf', h1, h2, fun t s ht => ?_⟩
    rcases h3 t s ht with ⟨h4, h5⟩ | h4
    · exact .inl ⟨by omega, by rw [show t - i = (t - (i + 1)) + 1 by omega]; simpa using h5⟩
    · unfold SF.get at h4
      simp only at h4
      rw [hg] at h4
      split at h4
      · rename_i et
        cases h4
        exact .inl ⟨by omega, by simp [et]⟩
      · exact .inr h4
theorem lk_args : ∀ (l : List Value) (i t : Nat) (v : Value), i ≤ t → l[t - i]? = some v → lk (argsFr l i) t = some v
  | [], _, _, _, _, h => by simp at h
  | u :: l, i, t, v, hi, h => by
    simp only [argsFr, lk]
    split
    · rename_i e; subst e; simpa using h
    · rename_i e
      refine lk_args l (i + 1) t v (by omega) ?_
      rw [show t - i = (t - (i + 1)) + 1 by omega] at h
      simpa using h
theorem args_ok {σ : Env} {l : List SV} {vs : List Value} {ng : Nat} (hl : denL σ l = some vs) (hg : ∀ g, g < ng → ∃ c, σ g = some (g, c)) {k : SF → Option β} (e : argsS l 0 ⟨ng, .nil⟩ k = some r) : ∃ sf, k sf = some r ∧ Frm σ sf (argsFr vs 0) := by
  obtain ⟨sf, h1, h2, h3⟩ := argsS_ok (σ := σ) l 0 _ k e
  refine ⟨sf, h1, fun t s ht => ?_, fun g hgg => hg g (by rw [h2] at hgg; exact hgg)⟩
  rcases h3 t s ht with ⟨_, h5⟩ | h5
  · obtain ⟨v, hv, hvs⟩ := denL_get _ _ _ _ hl h5
    exact ⟨v, hv, lk_args vs 0 t v (Nat.zero_le _) hvs⟩
  · simp [SF.get, Tr.get] at h5
include hC in
theorem resS_ok {sf : SF} {st : St} {σ : Env} {fr : Fr} {h : Heap} (hF : Frm σ sf fr) (hO : Obs st σ h) : ∀ (l : List ResultVar) (ls : List SV), C.resS sf st l = some ls → ∃ vs, denL σ ls = some vs ∧ ∀ k : List Value → Prop, k vs → resL C.P l fr h k
  | [], ls, e => by simp only [Cx.resS, Option.some.injEq] at e; subst e; exact ⟨[], rfl, fun k hk => hk⟩
  | .tmp t :: l, ls, e => by
    simp only [Cx.resS, Option.bind_eq_some_iff, Option.map_eq_some_iff] at e
    obtain ⟨s, hs, ls', h1, rfl⟩ := e
    obtain ⟨v, hv, hlk⟩ := hF.rel t s hs
    obtain ⟨vs, h2, h3⟩ := resS_ok hF hO l ls' h1
    refine ⟨v :: vs, by simp only [denL, hv, h2, Option.bind_some, Option.map_some], fun k hk => ?_⟩
    unfold resL
    simp only [hlk]
    exact h3 _ hk
  | .cell a T :: l, ls, e => by
    simp only [Cx.resS, Option.bind_eq_some_iff] at e
    obtain ⟨s, hs, e⟩ := e
    obtain ⟨v, hv, hlk⟩ := hF.rel a s hs
    split at e
    · simp only [Option.bind_eq_some_iff, Option.map_eq_some_iff] at e
      obtain ⟨x, hx, ls', h1, rfl⟩ := e
      obtain ⟨q, xv, hq, hxv, hk⟩ := loadS_ok hC hO hx
      obtain ⟨q', hq', rfl⟩ := den_p hv
      rw [hq] at hq'; cases hq'
      obtain ⟨vs, h2, h3⟩ := resS_ok hF hO l ls' h1
      refine ⟨xv :: vs, by simp only [denL, hxv, h2, Option.bind_some, Option.map_some], fun k hk' => ?_⟩
      unfold resL
      simp only [hlk]
      exact hk _ (h3 _ hk')
    · cases e
theorem one_ok {σ : Env} {ls : List SV} {vs : List Value} (h : denL σ ls = some vs) : den σ (oneS ls) = some (one vs) := by
  match ls, vs, h with
  | [], vs, h => simp only [denL, Option.some.injEq] at h; subst h; rfl
  | [s], vs, h =>
    simp only [denL, Option.bind_eq_some_iff, Option.map_eq_some_iff, Option.some.injEq] at h
    obtain ⟨v, hv, _, rfl, rfl⟩ := h
    exact hv
  | s :: t :: ls, vs, h =>
    have hl := denL_length _ _ h
    match vs, hl with
    | u :: v :: vs, _ => simp only [oneS, den, h, Option.map_some]; rfl
end
end Go.Proofs.YtkdmpdbbcgdfkaaGreatDoor.Sx
