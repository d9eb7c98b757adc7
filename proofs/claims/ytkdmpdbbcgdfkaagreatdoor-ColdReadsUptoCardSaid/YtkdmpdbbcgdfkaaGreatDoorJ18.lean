/-
  What an operation of the evaluator does to the heap: a new block, a block that is written, a slice that grows.
  The operations of the evaluator that make or write memory are the model's.
-/
import Derived.Test.YtkdmpdbbcgdfkaaGreatDoorJ17
import Derived.Test.YtkdmpdbbcgdfkaaGreatDoorJ4
import Derived.Laws.MakeOwn
import Derived.Laws.CopyRow
import Derived.Laws.IdiomCopy
namespace Go.Proofs.YtkdmpdbbcgdfkaaGreatDoor.Sx
open Go Vm
set_option linter.unusedSimpArgs false
set_option linter.unusedVariables false
/-- how a step comes out: the evaluator goes on with r, and the heap is the evaluator's -/
structure Goes (ng : Nat) (st : St) (σ : Env) (h : Heap) (st' : St) (σ' : Env) (h' : Heap) : Prop where
  rep : Rep ng st' σ' h'
  steps : Steps st.n st'.low σ h σ' h'
  low : st'.low ≤ st.low
  n : st.n ≤ st'.n
theorem Goes.refl {ng : Nat} {st : St} {σ : Env} {h : Heap} (H : Rep ng st σ h) : Goes ng st σ h st σ h := ⟨H, Steps.refl _ _ _ _, Nat.le_refl _, Nat.le_refl _⟩
theorem Goes.trans {ng : Nat} {a b c : St} {σ σ1 σ2 : Env} {h h1 h2 : Heap} (x : Goes ng a σ h b σ1 h1) (y : Goes ng b σ1 h1 c σ2 h2) : Goes ng a σ h c σ2 h2 :=
  ⟨y.rep, x.steps.trans y.steps x.n y.low, Nat.le_trans y.low x.low, Nat.le_trans x.n y.n⟩
theorem Goes.pre {ng : Nat} {a b : St} {σ σ1 : Env} {h h1 : Heap} (x : Goes ng a σ h b σ1 h1) : Pre σ σ1 := x.steps.pre
def upd (σ : Env) (i : Nat) (q : Nat × Nat) : Env := fun j => if j = i then some q else σ j
theorem upd_same (σ : Env) (i : Nat) (q : Nat × Nat) : upd σ i q i = some q := by simp [upd]
theorem upd_other (σ : Env) {i j : Nat} (q : Nat × Nat) (h : j ≠ i) : upd σ i q j = σ j := by simp [upd, h]
theorem upd_pre {σ : Env} {i : Nat} (q : Nat × Nat) (h : σ i = none) : Pre σ (upd σ i q) := fun j r e => by
  have : j ≠ i := fun e' => by rw [e', h] at e; cases e
  rw [upd_other σ q this]; exact e
theorem Rep.none_n {ng : Nat} {st : St} {σ : Env} {h : Heap} (H : Rep ng st σ h) {i : Nat} (hi : st.n ≤ i) : σ i = none := by
  cases e : σ i with
  | none => rfl
  | some q => have := (H.dom i q e).1; omega
/-- a block of the number i, which stood for nothing -/
theorem Rep.put_new {ng : Nat} {st st' : St} {σ : Env} {h h' : Heap} (H : Rep ng st σ h) {i cap : Nat} {b : Nat} {o : SO} (hi : σ i = none) (hin : i < st'.n) (hn : st.n ≤ st'.n) (hng : ng ≤ i) (hl : st'.low = st.low)
    (hp : ∀ j, st'.hp.get j = if j = i then some o else st.hp.get j) {ob : Obj} (hN : Newed h h' ob) (hb : b = h.size) (hob : objR (upd σ i (b, cap)) (b, cap) (some ob) o) : Rep ng st' (upd σ i (b, cap)) h' := by
  subst hb
  have hpre := upd_pre (h.size, cap) hi
  have hsz := hN.size
  refine ⟨fun g hg => ?_, fun j q e hj => ?_, Nat.le_trans H.ngn hn, fun j q e => ?_, fun j o' e => ?_, fun j k o1 o2 q r e1 e2 l1 l2 q1 q2 hq => ?_⟩
  · obtain ⟨c, hc⟩ := H.glob g hg
    exact ⟨c, hpre _ _ hc⟩
  · rw [hp]
    by_cases hji : j = i
    · exact ⟨o, by rw [if_pos hji]⟩
    · rw [if_neg hji]; rw [upd_other _ _ hji] at e; exact H.has j q e hj
  · by_cases hji : j = i
    · subst hji; rw [upd_same] at e; cases e; exact ⟨hin, by omega⟩
    · rw [upd_other _ _ hji] at e
      have := H.dom j q e
      exact ⟨by omega, by omega⟩
  · rw [hp] at e
    by_cases hji : j = i
    · subst hji
      rw [if_pos rfl] at e
      cases e
      exact ⟨_, upd_same _ _ _, by rw [hN.new]; exact hob⟩
    · rw [if_neg hji] at e
      obtain ⟨q, hq, hr⟩ := H.obj j o' e
      refine ⟨q, by rw [upd_other _ _ hji]; exact hq, ?_⟩
      rw [hN.block _ (H.dom j q hq).2]
      exact hr.mono hpre
  · rw [hp] at e1 e2
    by_cases hji : j = i <;> by_cases hki : k = i
    · rw [hji, hki]
    · subst hji
      rw [if_neg hki] at e2
      rw [upd_same] at q1; cases q1
      rw [upd_other _ _ hki] at q2
      have := (H.dom k r q2).2
      simp only at hq; omega
    · subst hki
      rw [if_neg hji] at e1
      rw [upd_same] at q2; cases q2
      rw [upd_other _ _ hji] at q1
      have := (H.dom j q q1).2
      simp only at hq; omega
    · rw [if_neg hji] at e1
      rw [if_neg hki] at e2
      rw [upd_other _ _ hji] at q1
      rw [upd_other _ _ hki] at q2
      exact H.inj j k o1 o2 q r e1 e2 l1 l2 q1 q2 hq
theorem steps_new {n low : Nat} {σ : Env} {h h' : Heap} {i cap : Nat} {ob : Obj} (hi : σ i = none) (hn : n ≤ i) (hN : Newed h h' ob) : Steps n low σ h (upd σ i (h.size, cap)) h' :=
  ⟨upd_pre _ hi, fun j hj => upd_other _ _ (by omega), by rw [hN.size]; omega, fun b hb _ => hN.block b hb, fun j q e1 e2 hq => by
    by_cases hji : j = i
    · subst hji; rw [upd_same] at e2; cases e2; simp only at hq; omega
    · rw [upd_other _ _ hji] at e2; rw [e1] at e2; cases e2⟩
theorem newS_ok {ng : Nat} {st : St} {σ : Env} {h h' : Heap} (H : Rep ng st σ h) {cap : Nat} {o : SO} {ob : Obj} (hN : Newed h h' ob) (hob : ∀ σ', Pre σ σ' → objR σ' (h.size, cap) (some ob) o) {β : Type} {k : Nat → St → Option β} {r : β} (e : newS st o k = some r) :
    ∃ st', k st.n st' = some r ∧ Goes ng st σ h st' (upd σ st.n (h.size, cap)) h' := by
  unfold newS at e
  obtain ⟨hp, e, hg⟩ := setK_some _ _ _ _ _ _ e
  rw [forceN_eq] at e
  have hi := H.none_n (Nat.le_refl st.n)
  refine ⟨_, e, H.put_new hi (Nat.lt_succ_self _) (Nat.le_succ _) H.ngn rfl hg hN rfl (hob _ (upd_pre _ hi)), steps_new hi (Nat.le_refl _) hN, Nat.le_refl _, Nat.le_succ _⟩
/-- h' is h but for one block -/
structure Turns (h h' : Heap) (b : Nat) (o : Obj) : Prop where
  size : h'.size = h.size
  new : h'[b]? = some o
  block : ∀ c, c ≠ b → h'[c]? = h[c]?
theorem Wrote.turns {h h' : Heap} {b : Nat} {l : List Value} {t : TypeId} (w : Wrote h h' b l t) : Turns h h' b (.cells l.toArray t (0, 0)) := ⟨w.size, w.new, w.block⟩
theorem writeS_ok {ng : Nat} {st : St} {σ : Env} {h h' : Heap} (H : Rep ng st σ h) {id : Nat} {q : Nat × Nat} {o0 o : SO} {ob : Obj} (h0 : st.hp.get id = some o0) (hl : o0.live = true) (hq : σ id = some q) (hT : Turns h h' q.1 ob) (hob : objR σ q (some ob) o)
    {β : Type} {k : St → Option β} {r : β} (e : writeS st id o k = some r) : ∃ st', k st' = some r ∧ Goes ng st σ h st' σ h' ∧ st'.n = st.n ∧ (∀ j, st'.hp.get j = if j = id then some o else st.hp.get j) ∧ st'.low = min st.low id := by
  unfold writeS at e
  obtain ⟨hp, ek, hg⟩ := setK_some _ _ _ _ _ _ e
  clear e
  rw [forceN_eq] at ek
  refine ⟨_, ek, ⟨⟨H.glob, fun j q e hj => ?_, H.ngn, fun j q e => ?_, fun j o' e => ?_, fun j k o1 o2 q r e1 e2 l1 l2 q1 q2 hqr => ?_⟩, ⟨Pre.refl _, fun _ _ => rfl, by rw [hT.size]; exact Nat.le_refl _, fun b hb hne => hT.block b fun eb => ?_, fun i q hi e _ => by rw [hi] at e; cases e⟩, Nat.min_le_left _ _, Nat.le_refl _⟩, rfl, hg, rfl⟩
  · rw [hg]
    split
    · exact ⟨_, rfl⟩
    · exact H.has j q e hj
  · have := H.dom j q e
    exact ⟨this.1, by rw [hT.size]; exact this.2⟩
  · rw [hg] at e
    split at e
    · rename_i hj
      subst hj
      cases e
      exact ⟨q, hq, by rw [hT.new]; exact hob⟩
    · rename_i hj
      obtain ⟨q', hq', hr⟩ := H.obj j o' e
      refine ⟨q', hq', ?_⟩
      by_cases hlo : o'.live = true
      · rw [hT.block _ fun eb => hj (H.inj j id o' o0 q' q e h0 hlo hl hq' hq eb)]
        exact hr
      · cases o' with
        | dead => trivial
        | row => exact absurd rfl hlo
        | map => exact absurd rfl hlo
  · rw [hg] at e1 e2
    have old : ∀ j o1, (if j = id then some o else st.hp.get j) = some o1 → o1.live = true → ∃ o2, st.hp.get j = some o2 ∧ o2.live = true := fun j o1 e l => by
      split at e
      · rename_i hj; subst hj; exact ⟨o0, h0, hl⟩
      · exact ⟨o1, e, l⟩
    obtain ⟨p1, g1, m1⟩ := old j o1 e1 l1
    obtain ⟨p2, g2, m2⟩ := old k o2 e2 l2
    exact H.inj j k p1 p2 q r g1 g2 m1 m2 q1 q2 hqr
  · exact hne id q (Nat.min_le_right _ _) hq eb.symm
theorem Rep.grown {ng : Nat} {st st' : St} {σ : Env} {h h' : Heap} (H : Rep ng st σ h) {S : Nat → Prop} (c : Chg S h h') {kill : Nat → Prop} {g cap : Nat} {o : SO} {ob : Obj}
    (hk1 : ∀ j, kill j → ∃ o, st.hp.get j = some o) (hk2 : ∀ j o q, st.hp.get j = some o → o.live = true → σ j = some q → S q.1 → kill j) (hg : S g ∨ h.size ≤ g) (hg' : h'[g]? = some ob)
    (hS : ∀ b, S b → ∃ i q, st'.low ≤ i ∧ σ i = some q ∧ q.1 = b)
    (hn : st'.n = st.n + 1) (hl : st'.low ≤ st.low) (hp1 : st'.hp.get st.n = some o) (hp2 : ∀ j, kill j → j ≠ st.n → st'.hp.get j = some .dead) (hp3 : ∀ j, ¬ kill j → j ≠ st.n → st'.hp.get j = st.hp.get j)
    (hob : objR (upd σ st.n (g, cap)) (g, cap) (some ob) o) : Goes ng st σ h st' (upd σ st.n (g, cap)) h' := by
  have hi := H.none_n (Nat.le_refl st.n)
  have hpre := upd_pre (g, cap) hi
  have hglt : g < h'.size := (Array.getElem?_eq_some_iff.1 hg').1
  refine ⟨⟨fun x hx => ?_, fun j q e hj => ?_, by have := H.ngn; omega, fun j q e => ?_, fun j o' e => ?_, fun j k o1 o2 q r e1 e2 l1 l2 q1 q2 hq => ?_⟩, ⟨hpre, fun j hj => upd_other _ _ (by omega), c.size, fun b hb hne => c.block b hb fun hs => ?_, fun j q e1 e2 hq => ?_⟩, hl, by omega⟩
  · obtain ⟨c, hc⟩ := H.glob x hx
    exact ⟨c, hpre _ _ hc⟩
  · by_cases hji : j = st.n
    · subst hji; exact ⟨o, hp1⟩
    · rw [upd_other _ _ hji] at e
      by_cases hkj : kill j
      · exact ⟨_, hp2 j hkj hji⟩
      · rw [hp3 j hkj hji]; exact H.has j q e hj
  · by_cases hji : j = st.n
    · subst hji; rw [upd_same] at e; cases e; exact ⟨by omega, hglt⟩
    · rw [upd_other _ _ hji] at e
      have := H.dom j q e
      exact ⟨by omega, Nat.lt_of_lt_of_le this.2 c.size⟩
  · by_cases hji : j = st.n
    · subst hji
      rw [hp1] at e
      cases e
      exact ⟨_, upd_same _ _ _, by rw [hg']; exact hob⟩
    · by_cases hkj : kill j
      · rw [hp2 j hkj hji] at e
        cases e
        obtain ⟨o, ho⟩ := hk1 j hkj
        obtain ⟨q, hq, _⟩ := H.obj j o ho
        exact ⟨q, by rw [upd_other _ _ hji]; exact hq, trivial⟩
      · rw [hp3 j hkj hji] at e
        obtain ⟨q, hq, hr⟩ := H.obj j o' e
        refine ⟨q, by rw [upd_other _ _ hji]; exact hq, ?_⟩
        by_cases hlo : o'.live = true
        · rw [c.block _ (H.dom j q hq).2 fun hs => hkj (hk2 j o' q e hlo hq hs)]
          exact hr.mono hpre
        · cases o' with
          | dead => trivial
          | row => exact absurd rfl hlo
          | map => exact absurd rfl hlo
  · have old : ∀ j o1, j ≠ st.n → st'.hp.get j = some o1 → o1.live = true → ¬ kill j ∧ st.hp.get j = some o1 := fun j o1 hj e l => by
      by_cases hkj : kill j
      · rw [hp2 j hkj hj] at e; cases e; cases l
      · rw [hp3 j hkj hj] at e; exact ⟨hkj, e⟩
    have away : ∀ j o1 q, j ≠ st.n → st'.hp.get j = some o1 → o1.live = true → σ j = some q → q.1 ≠ g := fun j o1 q hj e l hq eg => by
      obtain ⟨a1, a2⟩ := old j o1 hj e l
      rcases hg with hs | hs
      · exact a1 (hk2 j o1 q a2 l hq (eg ▸ hs))
      · have := (H.dom j q hq).2; omega
    by_cases hji : j = st.n <;> by_cases hki : k = st.n
    · rw [hji, hki]
    · subst hji
      rw [upd_same] at q1; cases q1
      rw [upd_other _ _ hki] at q2
      exact absurd hq.symm (away k o2 r hki e2 l2 q2)
    · subst hki
      rw [upd_same] at q2; cases q2
      rw [upd_other _ _ hji] at q1
      exact absurd hq (away j o1 q hji e1 l1 q1)
    · rw [upd_other _ _ hji] at q1
      rw [upd_other _ _ hki] at q2
      exact H.inj j k o1 o2 q r (old j o1 hji e1 l1).2 (old k o2 hki e2 l2).2 l1 l2 q1 q2 hq
  · obtain ⟨i, q, h1, h2, h3⟩ := hS b hs
    exact hne i q h1 (hpre _ _ h2) h3
  · by_cases hji : j = st.n
    · subst hji
      rw [upd_same] at e2; cases e2
      rcases hg with hs | hs
      · obtain ⟨i, q, h1, h2, h3⟩ := hS g hs
        exact ⟨i, q, h1, h2, h3⟩
      · simp only at hq; omega
    · rw [upd_other _ _ hji, e1] at e2; cases e2
end Go.Proofs.YtkdmpdbbcgdfkaaGreatDoor.Sx
namespace Go.Proofs.YtkdmpdbbcgdfkaaGreatDoor.Sx
open Go Vm
set_option linter.unusedSimpArgs false
set_option linter.unusedVariables false
/-- how an operation comes out -/
def Out (ng : Nat) (st : St) (σ : Env) (h : Heap) {β : Type} (k : SV → St → Option β) (r : β) (v : Value) (h' : Heap) : Prop :=
  ∃ s st' σ', k s st' = some r ∧ den σ' s = some v ∧ Goes ng st σ h st' σ' h'
section
variable {C : Cx} (hC : CxOk C) {ng : Nat} {st : St} {σ : Env} {h : Heap} {sf : SF} {fr : Fr} {β : Type} {k : SV → St → Option β} {r : β}
theorem oneB_ok {s : SV} {v : Value} (h : oneB s = true) (e : den σ s = some v) : v.oneCell' = true := by
  cases v <;> first
    | rfl
    | (exfalso
       cases s <;> simp [den, Option.bind_eq_some_iff, oneB] at e h
       done)
theorem onesB_ok : ∀ (l : List SV) (vs : List Value), onesB l = true → denL σ l = some vs → ∀ v ∈ vs, v.oneCell' = true
  | [], vs, _, e => by simp only [denL, Option.some.injEq] at e; subst e; simp
  | s :: l, vs, h, e => by
    simp only [onesB, Bool.and_eq_true] at h
    simp only [denL, Option.bind_eq_some_iff, Option.map_eq_some_iff] at e
    obtain ⟨u, h1, us, h2, rfl⟩ := e
    intro v hv
    simp only [List.mem_cons] at hv
    rcases hv with rfl | hv
    · exact oneB_ok h.1 h1
    · exact onesB_ok l us h.2 h2 v hv
theorem objR_new {q : Nat × Nat} {l : List SV} {vs : List Value} {t : Nat} (h1 : denL σ l = some vs) (h2 : onesB l = true) : objR σ q (some (.cells vs.toArray t (0, 0))) (.row l t none true) :=
  ⟨vs, [], (0, 0), h1, onesB_ok l vs h2 h1, by simp, rfl, fun _ => rfl⟩
/-- a new row -/
theorem row_new (H : Rep ng st σ h) {l : List SV} {vs : List Value} {t : Nat} (h1 : denL σ l = some vs) (h2 : onesB l = true) {k : Nat → St → Option β} (e : newS st (.row l t none true) k = some r) {h' : Heap} (hN : Newed h h' (.cells vs.toArray t)) :
    ∃ st', k st.n st' = some r ∧ Goes ng st σ h st' (upd σ st.n (h.size, 0)) h' :=
  newS_ok H (cap := 0) hN (fun σ' hp => objR_new (denL_mono hp _ _ h1) h2) e
include hC in
theorem alloc_ok (H : Rep ng st σ h) {o : Oper} {T : Nat} (ho : o.op = .alloc T) {call : Nat → List SV → St → Option (SV × St)} (e : C.opi call o sf st k = some r) : Vm.opi C.P o fr h (Out ng st σ h k r) := by
  unfold Cx.opi at e
  simp only [ho, Option.bind_eq_some_iff, hC.info] at e
  obtain ⟨i, hi, zv, hz, z, hzs, e⟩ := e
  split at e
  · rename_i h1
    obtain ⟨us, hus, hcv⟩ := den_cells (ofV_den σ zv z hzs)
    unfold Vm.opi
    simp only [ho, hi, hz]
    intro h' hN
    rw [hcv] at hN
    obtain ⟨st', e', hG⟩ := row_new H hus h1 e hN
    exact ⟨_, st', _, e', by simp only [den, upd_same, Option.map_some], hG⟩
  · cases e
theorem box_ok (hF : Frm σ sf fr) (H : Rep ng st σ h) {o : Oper} {T : Nat} {x : Operand} (ho : o.op = .box T x) {call : Nat → List SV → St → Option (SV × St)} (e : C.opi call o sf st k = some r) : Vm.opi C.P o fr h (Out ng st σ h k r) := by
  unfold Cx.opi at e
  simp only [ho, Option.bind_eq_some_iff] at e
  obtain ⟨z, hz, e⟩ := e
  obtain ⟨v, v1, v2⟩ := evO_ok hF hz
  split at e
  · rename_i h1
    obtain ⟨us, hus, hcv⟩ := den_cells v2
    unfold Vm.opi
    simp only [ho, evk_of v1]
    intro h' hN
    rw [hcv] at hN
    obtain ⟨st', e', hG⟩ := row_new H hus h1 e hN
    exact ⟨_, st', _, e', by simp only [den, upd_same, Option.map_some], hG⟩
  · cases e
/-! ### rows of zeros -/
theorem repS_ok {l : List SV} {vs : List Value} (e : denL σ l = some vs) : ∀ n, denL σ (repS n l) = some ((List.range (n * vs.length)).map fun i => vs[i % vs.length]!)
  | 0 => by simp [repS, denL]
  | n + 1 => by
    have ih := repS_ok e n
    unfold repS
    have := denL_append _ _ _ _ e ih
    rw [this]
    congr 1
    rw [Nat.succ_mul, Nat.add_comm (n * vs.length), List.range_add, List.map_append, List.map_map]
    congr 1
    · apply List.ext_getElem?
      intro i
      by_cases hi : i < vs.length
      · simp [hi, Nat.mod_eq_of_lt hi]
      · simp [hi]
    · apply List.map_congr_left
      intro i _
      simp
theorem madeCells_eq (vs : List Value) (n : Nat) : madeCells vs.toArray n = ((List.range n).map fun i => vs[i % vs.length]!).toArray := by
  unfold madeCells
  apply Array.ext'
  simp
theorem onesB_rep {l : List SV} (h : onesB l = true) : ∀ n, onesB (repS n l) = true := by
  have app : ∀ a b : List SV, onesB a = true → onesB b = true → onesB (a ++ b) = true := by
    intro a
    induction a with
    | nil => intro b _ h; exact h
    | cons x a ih => intro b h1 h2; simp only [onesB, Bool.and_eq_true, List.cons_append] at h1 ⊢; exact ⟨h1.1, ih b h1.2 h2⟩
  intro n
  induction n with
  | zero => rfl
  | succ n ih => exact app _ _ h ih
include hC in
theorem makeSlice_ok (hF : Frm σ sf fr) (H : Rep ng st σ h) {o : Oper} {t : Nat} {x y : Operand} (ho : o.op = .makeSlice t x y) {call : Nat → List SV → St → Option (SV × St)} (e : C.opi call o sf st k = some r) : Vm.opi C.P o fr h (Out ng st σ h k r) := by
  unfold Cx.opi at e
  simp only [ho, Option.bind_eq_some_iff, hC.und] at e
  obtain ⟨ls, hl, cs, hc, e⟩ := e
  obtain ⟨lv, l1, l2⟩ := evO_ok hF hl
  obtain ⟨cv, c1, c2⟩ := evO_ok hF hc
  split at e
  · rename_i kl ln kc cn el ht
    simp only [Option.bind_eq_some_iff] at e
    obtain ⟨sz, hs, z, hz, e⟩ := e
    obtain ⟨i, zv, hi, hzv, hd⟩ := zero_ok hC hz (σ := σ)
    obtain ⟨i', hi', rfl⟩ := hC.size hs
    rw [hi] at hi'; cases hi'
    split at e
    · rename_i h1
      obtain ⟨g1, g2, g3, g4⟩ := h1
      rw [forceVs_eq] at e
      obtain ⟨us, hus, hcv⟩ := den_cells hd
      have hlen := denL_length _ _ hus
      have := den_i l2; subst this
      have := den_i c2; subst this
      obtain ⟨b1, b2⟩ := hC.roomB hi g2
      unfold Vm.opi
      simp only [ho, evk_of l1, evk_of c1, ht, hi, hzv]
      have b1' : (i.bytes : Int) * (cn : Int) ≤ 1073741824 := by
        have : ((cn * i.bytes : Nat) : Int) ≤ ((1073741824 : Nat) : Int) := Int.ofNat_le.2 b1
        rw [Int.natCast_mul, Int.mul_comm] at this
        exact this
      refine ⟨⟨Int.natCast_nonneg _, by simpa using g1, Int.le_trans b1' (by decide), by show (cn : Int) ≤ _; omega⟩, ?_⟩
      intro h' hN
      have ec : (Int.ofNat cn).toNat = cn := rfl
      have el' : (Int.ofNat ln).toNat = ln := rfl
      have e1 : cn * i.size = cn * us.length := by rw [hlen, g3]
      rw [ec, hcv, madeCells_eq, e1] at hN
      have hrow := repS_ok hus cn
      obtain ⟨st', e', hG⟩ := row_new H hrow (onesB_rep g4 cn) e hN
      refine ⟨_, st', _, e', ?_, hG⟩
      rw [ec, el']
      simp only [den]
      rw [if_pos ⟨g1, by simp only [maxLen]; omega⟩, upd_same]
      rfl
    · cases e
  · cases e
/-! ### literals of slices -/
theorem zeros_eq (vs : List Value) (n : Nat) : (Array.range n).map (fun i => vs.toArray[i % vs.toArray.size]!) = ((List.range n).map fun i => vs[i % vs.length]!).toArray := by
  apply Array.ext'
  simp
include hC in
theorem buildSlice_ok (hF : Frm σ sf fr) (H : Rep ng st σ h) {o : Oper} {t len : Nat} {parts : Array (Nat × Operand)} (ho : o.op = .buildSlice t len parts) {call : Nat → List SV → St → Option (SV × St)} (e : C.opi call o sf st k = some r) : Vm.opi C.P o fr h (Out ng st σ h k r) := by
  unfold Cx.opi at e
  simp only [ho, Option.bind_eq_some_iff, hC.und] at e
  obtain ⟨ps, hp, e⟩ := e
  obtain ⟨vs, p1, p2⟩ := evPs_ok hF _ _ hp
  split at e
  · rename_i el ht
    simp only [Option.bind_eq_some_iff] at e
    obtain ⟨sz, hs, z, hz, e⟩ := e
    obtain ⟨i, zv, hi, hzv, hd⟩ := zero_ok hC hz (σ := σ)
    obtain ⟨i', hi', rfl⟩ := hC.size hs
    rw [hi] at hi'; cases hi'
    split at e
    · rename_i h1
      obtain ⟨g1, g2, g0⟩ := h1
      simp only [Option.bind_eq_some_iff] at e
      obtain ⟨l, hl, e⟩ := e
      rw [forceVs_eq] at e
      split at e
      · rename_i g3
        obtain ⟨us, hus, hcv⟩ := den_cells hd
        have hlen := denL_length _ _ hus
        obtain ⟨ov, o1, o2, o3⟩ := fillS_ok ps vs _ l _ p2 (repS_ok hus len) hl
        have hroom := hC.room
        have elen : len * us.length = len * i.size := by rw [hlen, g2]
        rw [elen] at o2 o3
        have hlm : len ≤ maxLen := by simp only [maxLen]; omega
        unfold Vm.opi
        simp only [ho]
        refine ⟨vs, p1, ov.toArray, el, fun w => ?_, ?_⟩
        · unfold Instr.buildSlice
          simp only [Sem.run_bind, run_underlying ht, Result.andThen_ok, Vm.run_sizeOf hi]
          rw [if_neg (by omega)]
          by_cases h0 : len * i.size = 0
          · have e2 : (Array.range (len * i.size)).map (fun i => (#[] : Array Value)[i % (#[] : Array Value).size]!) = ((List.range (len * i.size)).map fun i => us[i % us.length]!).toArray := by
              rw [h0]; simp
            simp only [if_pos h0, Sem.run_bind, Sem.run_pure, Result.andThen_ok, List.toList_toArray]
            rw [e2, o2]
            rfl
          · simp only [if_neg h0, Sem.run_bind, run_zero hi hzv, Result.andThen_ok, Sem.run_pure, List.toList_toArray, hcv]
            rw [zeros_eq, o2]
            rfl
        · intro h' hN
          obtain ⟨st', e', hG⟩ := row_new H o1 g3 e hN
          refine ⟨_, st', _, e', ?_, hG⟩
          simp only [den]
          rw [if_pos ⟨Nat.le_refl _, hlm⟩, upd_same]
          rfl
      · cases e
    · cases e
  · cases e
end
end Go.Proofs.YtkdmpdbbcgdfkaaGreatDoor.Sx
