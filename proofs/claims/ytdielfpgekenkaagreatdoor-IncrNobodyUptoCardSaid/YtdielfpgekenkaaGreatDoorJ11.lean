/-
  What an operation of the evaluator does to the heap: a new block, a block that is written, a slice that grows.
  The operations of the evaluator that make or write memory are the model's.
  The operations of the evaluator that write memory: stores, append.
  The other operations of the evaluator: conversions, copy, maps, calls.
-/
import Derived.Test.YtdielfpgekenkaaGreatDoorJ10
import Derived.Test.YtdielfpgekenkaaGreatDoorJ3
import Derived.Laws.MakeOwn
import Derived.Laws.CopyRow
import Derived.Laws.IdiomCopy
import Derived.Lib.AppendStr
import Derived.Lib.ConvBytes
import Derived.Laws.IdiomStrings
import Derived.Laws.BytesArg
import Derived.Laws.Small
namespace Go.Proofs.YtdielfpgekenkaaGreatDoor.Sx
open Go Vm
set_option linter.unusedSimpArgs false
set_option linter.unusedVariables false
/-- how a step comes out: the evaluator goes on with r, and the heap is the evaluator's -/
structure Goes (ng : Nat) (st : St) (σ : Env) (h : Heap) (st' : St) (σ' : Env) (h' : Heap) : Prop where
  rep : Rep ng st' σ' h'
  steps : Steps st.n st'.low σ h σ' h'
  low : st'.low ≤ st.low
  n : st.n ≤ st'.n
theorem Goes.refl {ng : Nat} {st : St} {σ : Env} {h : Heap} (H : Rep ng st σ h) : Goes ng st σ h st σ h := ⟨H, Steps.refl _ _ _ _, Nat.le_refl _, Nat.le_refl _⟩
theorem Goes.trans {ng : Nat} {a b c : St} {σ σ1 σ2 : Env} {h h1 h2 : Heap} (x : Goes ng a σ h b σ1 h1) (y : Goes ng b σ1 h1 c σ2 h2) : Goes ng a σ h c σ2 h2 :=
  ⟨y.rep, x.steps.trans y.steps x.n y.low, Nat.le_trans y.low x.low, Nat.le_trans x.n y.n⟩
theorem Goes.pre {ng : Nat} {a b : St} {σ σ1 : Env} {h h1 : Heap} (x : Goes ng a σ h b σ1 h1) : Pre σ σ1 := x.steps.pre
def upd (σ : Env) (i : Nat) (q : Nat × Nat) : Env := fun j => if j = i then some q else σ j
theorem upd_same (σ : Env) (i : Nat) (q : Nat × Nat) : upd σ i q i = some q := by simp [upd]
theorem upd_other (σ : Env) {i j : Nat} (q : Nat × Nat) (h : j ≠ i) : upd σ i q j = σ j := by simp [upd, h]
theorem upd_pre {σ : Env} {i : Nat} (q : Nat × Nat) (h : σ i = none) : Pre σ (upd σ i q) := fun j r e => by
  have : j ≠ i := fun e' => by rw [e', h] at e; cases e
  rw [upd_other σ q this]; exact e
theorem Rep.none_n {ng : Nat} {st : St} {σ : Env} {h : Heap} (H : Rep ng st σ h) {i : Nat} (hi : st.n ≤ i) : σ i = none := by
  cases e : σ i with
  | none => rfl
  | some q => have := (H.dom i q e).1; omega
/-- a block of the number i, which stood for nothing -/
theorem Rep.put_new {ng : Nat} {st st' : St} {σ : Env} {h h' : Heap} (H : Rep ng st σ h) {i cap : Nat} {b : Nat} {o : SO} (hi : σ i = none) (hin : i < st'.n) (hn : st.n ≤ st'.n) (hng : ng ≤ i) (hl : st'.low = st.low)
    (hp : ∀ j, st'.hp.get j = if j = i then some o else st.hp.get j) {ob : Obj} (hN : Newed h h' ob) (hb : b = h.size) (hob : objR (upd σ i (b, cap)) (b, cap) (some ob) o) : Rep ng st' (upd σ i (b, cap)) h' := by
  subst hb
  have hpre := upd_pre (h.size, cap) hi
  have hsz := hN.size
  refine ⟨fun g hg => ?_, fun j q e hj => ?_, Nat.le_trans H.ngn hn, fun j q e => ?_, fun j o' e => ?_, fun j k o1 o2 q r e1 e2 l1 l2 q1 q2 hq => ?_⟩
  · obtain ⟨c, hc⟩ := H.glob g hg
    exact ⟨c, hpre _ _ hc⟩
  · rw [hp]
    by_cases hji : j = i
    · exact ⟨o, by rw [if_pos hji]⟩
    · rw [if_neg hji]; rw [upd_other _ _ hji] at e; exact H.has j q e hj
  · by_cases hji : j = i
    · subst hji; rw [upd_same] at e; cases e; exact ⟨hin, by omega⟩
    · rw [upd_other _ _ hji] at e
      have := H.dom j q e
      exact ⟨by omega, by omega⟩
  · rw [hp] at e
    by_cases hji : j = i
    · subst hji
      rw [if_pos rfl] at e
      cases e
      exact ⟨_, upd_same _ _ _, by rw [hN.new]; exact hob⟩
    · rw [if_neg hji] at e
      obtain ⟨q, hq, hr⟩ := H.obj j o' e
      refine ⟨q, by rw [upd_other _ _ hji]; exact hq, ?_⟩
      rw [hN.block _ (H.dom j q hq).2]
      exact hr.mono hpre
  · rw [hp] at e1 e2
    by_cases hji : j = i <;> by_cases hki : k = i
    · rw [hji, hki]
    · subst hji
      rw [if_neg hki] at e2
      rw [upd_same] at q1; cases q1
      rw [upd_other _ _ hki] at q2
      have := (H.dom k r q2).2
      simp only at hq; omega
    · subst hki
      rw [if_neg hji] at e1
      rw [upd_same] at q2; cases q2
      rw [upd_other _ _ hji] at q1
      have := (H.dom j q q1).2
      simp only at hq; omega
    · rw [if_neg hji] at e1
      rw [if_neg hki] at e2
      rw [upd_other _ _ hji] at q1
      rw [upd_other _ _ hki] at q2
      exact H.inj j k o1 o2 q r e1 e2 l1 l2 q1 q2 hq
theorem steps_new {n low : Nat} {σ : Env} {h h' : Heap} {i cap : Nat} {ob : Obj} (hi : σ i = none) (hn : n ≤ i) (hN : Newed h h' ob) : Steps n low σ h (upd σ i (h.size, cap)) h' :=
  ⟨upd_pre _ hi, fun j hj => upd_other _ _ (by omega), by rw [hN.size]; omega, fun b hb _ => hN.block b hb, fun j q e1 e2 hq => by
    by_cases hji : j = i
    · subst hji; rw [upd_same] at e2; cases e2; simp only at hq; omega
    · rw [upd_other _ _ hji] at e2; rw [e1] at e2; cases e2⟩
theorem newS_ok {ng : Nat} {st : St} {σ : Env} {h h' : Heap} (H : Rep ng st σ h) {cap : Nat} {o : SO} {ob : Obj} (hN : Newed h h' ob) (hob : ∀ σ', Pre σ σ' → objR σ' (h.size, cap) (some ob) o) {β : Type} {k : Nat → St → Option β} {r : β} (e : newS st o k = some r) :
    ∃ st', k st.n st' = some r ∧ Goes ng st σ h st' (upd σ st.n (h.size, cap)) h' := by
  unfold newS at e
  obtain ⟨hp, e, hg⟩ := setK_some _ _ _ _ _ _ e
  rw [forceN_eq] at e
  have hi := H.none_n (Nat.le_refl st.n)
  refine ⟨_, e, H.put_new hi (Nat.lt_succ_self _) (Nat.le_succ _) H.ngn rfl hg hN rfl (hob _ (upd_pre _ hi)), steps_new hi (Nat.le_refl _) hN, Nat.le_refl _, Nat.le_succ _⟩
/-- h' is h but for one block -/
structure Turns (h h' : Heap) (b : Nat) (o : Obj) : Prop where
  size : h'.size = h.size
  new : h'[b]? = some o
  block : ∀ c, c ≠ b → h'[c]? = h[c]?
theorem Wrote.turns {h h' : Heap} {b : Nat} {l : List Value} {t : TypeId} (w : Wrote h h' b l t) : Turns h h' b (.cells l.toArray t (0, 0)) := ⟨w.size, w.new, w.block⟩
theorem writeS_ok {ng : Nat} {st : St} {σ : Env} {h h' : Heap} (H : Rep ng st σ h) {id : Nat} {q : Nat × Nat} {o0 o : SO} {ob : Obj} (h0 : st.hp.get id = some o0) (hl : o0.live = true) (hq : σ id = some q) (hT : Turns h h' q.1 ob) (hob : objR σ q (some ob) o)
    {β : Type} {k : St → Option β} {r : β} (e : writeS st id o k = some r) : ∃ st', k st' = some r ∧ Goes ng st σ h st' σ h' ∧ st'.n = st.n ∧ (∀ j, st'.hp.get j = if j = id then some o else st.hp.get j) ∧ st'.low = min st.low id := by
  unfold writeS at e
  obtain ⟨hp, ek, hg⟩ := setK_some _ _ _ _ _ _ e
  clear e
  rw [forceN_eq] at ek
  refine ⟨_, ek, ⟨⟨H.glob, fun j q e hj => ?_, H.ngn, fun j q e => ?_, fun j o' e => ?_, fun j k o1 o2 q r e1 e2 l1 l2 q1 q2 hqr => ?_⟩, ⟨Pre.refl _, fun _ _ => rfl, by rw [hT.size]; exact Nat.le_refl _, fun b hb hne => hT.block b fun eb => ?_, fun i q hi e _ => by rw [hi] at e; cases e⟩, Nat.min_le_left _ _, Nat.le_refl _⟩, rfl, hg, rfl⟩
  · rw [hg]
    split
    · exact ⟨_, rfl⟩
    · exact H.has j q e hj
  · have := H.dom j q e
    exact ⟨this.1, by rw [hT.size]; exact this.2⟩
  · rw [hg] at e
    split at e
    · rename_i hj
      subst hj
      cases e
      exact ⟨q, hq, by rw [hT.new]; exact hob⟩
    · rename_i hj
      obtain ⟨q', hq', hr⟩ := H.obj j o' e
      refine ⟨q', hq', ?_⟩
      by_cases hlo : o'.live = true
      · rw [hT.block _ fun eb => hj (H.inj j id o' o0 q' q e h0 hlo hl hq' hq eb)]
        exact hr
      · cases o' with
        | dead => trivial
        | row => exact absurd rfl hlo
        | map => exact absurd rfl hlo
        | tab => exact absurd rfl hlo
  · rw [hg] at e1 e2
    have old : ∀ j o1, (if j = id then some o else st.hp.get j) = some o1 → o1.live = true → ∃ o2, st.hp.get j = some o2 ∧ o2.live = true := fun j o1 e l => by
      split at e
      · rename_i hj; subst hj; exact ⟨o0, h0, hl⟩
      · exact ⟨o1, e, l⟩
    obtain ⟨p1, g1, m1⟩ := old j o1 e1 l1
    obtain ⟨p2, g2, m2⟩ := old k o2 e2 l2
    exact H.inj j k p1 p2 q r g1 g2 m1 m2 q1 q2 hqr
  · exact hne id q (Nat.min_le_right _ _) hq eb.symm
theorem Rep.grown {ng : Nat} {st st' : St} {σ : Env} {h h' : Heap} (H : Rep ng st σ h) {S : Nat → Prop} (c : Chg S h h') {kill : Nat → Prop} {g cap : Nat} {o : SO} {ob : Obj}
    (hk1 : ∀ j, kill j → ∃ o, st.hp.get j = some o) (hk2 : ∀ j o q, st.hp.get j = some o → o.live = true → σ j = some q → S q.1 → kill j) (hg : S g ∨ h.size ≤ g) (hg' : h'[g]? = some ob)
    (hS : ∀ b, S b → ∃ i q, st'.low ≤ i ∧ σ i = some q ∧ q.1 = b)
    (hn : st'.n = st.n + 1) (hl : st'.low ≤ st.low) (hp1 : st'.hp.get st.n = some o) (hp2 : ∀ j, kill j → j ≠ st.n → st'.hp.get j = some .dead) (hp3 : ∀ j, ¬ kill j → j ≠ st.n → st'.hp.get j = st.hp.get j)
    (hob : objR (upd σ st.n (g, cap)) (g, cap) (some ob) o) : Goes ng st σ h st' (upd σ st.n (g, cap)) h' := by
  have hi := H.none_n (Nat.le_refl st.n)
  have hpre := upd_pre (g, cap) hi
  have hglt : g < h'.size := (Array.getElem?_eq_some_iff.1 hg').1
  refine ⟨⟨fun x hx => ?_, fun j q e hj => ?_, by have := H.ngn; omega, fun j q e => ?_, fun j o' e => ?_, fun j k o1 o2 q r e1 e2 l1 l2 q1 q2 hq => ?_⟩, ⟨hpre, fun j hj => upd_other _ _ (by omega), c.size, fun b hb hne => c.block b hb fun hs => ?_, fun j q e1 e2 hq => ?_⟩, hl, by omega⟩
  · obtain ⟨c, hc⟩ := H.glob x hx
    exact ⟨c, hpre _ _ hc⟩
  · by_cases hji : j = st.n
    · subst hji; exact ⟨o, hp1⟩
    · rw [upd_other _ _ hji] at e
      by_cases hkj : kill j
      · exact ⟨_, hp2 j hkj hji⟩
      · rw [hp3 j hkj hji]; exact H.has j q e hj
  · by_cases hji : j = st.n
    · subst hji; rw [upd_same] at e; cases e; exact ⟨by omega, hglt⟩
    · rw [upd_other _ _ hji] at e
      have := H.dom j q e
      exact ⟨by omega, Nat.lt_of_lt_of_le this.2 c.size⟩
  · by_cases hji : j = st.n
    · subst hji
      rw [hp1] at e
      cases e
      exact ⟨_, upd_same _ _ _, by rw [hg']; exact hob⟩
    · by_cases hkj : kill j
      · rw [hp2 j hkj hji] at e
        cases e
        obtain ⟨o, ho⟩ := hk1 j hkj
        obtain ⟨q, hq, _⟩ := H.obj j o ho
        exact ⟨q, by rw [upd_other _ _ hji]; exact hq, trivial⟩
      · rw [hp3 j hkj hji] at e
        obtain ⟨q, hq, hr⟩ := H.obj j o' e
        refine ⟨q, by rw [upd_other _ _ hji]; exact hq, ?_⟩
        by_cases hlo : o'.live = true
        · rw [c.block _ (H.dom j q hq).2 fun hs => hkj (hk2 j o' q e hlo hq hs)]
          exact hr.mono hpre
        · cases o' with
          | dead => trivial
          | row => exact absurd rfl hlo
          | map => exact absurd rfl hlo
          | tab => exact absurd rfl hlo
  · have old : ∀ j o1, j ≠ st.n → st'.hp.get j = some o1 → o1.live = true → ¬ kill j ∧ st.hp.get j = some o1 := fun j o1 hj e l => by
      by_cases hkj : kill j
      · rw [hp2 j hkj hj] at e; cases e; cases l
      · rw [hp3 j hkj hj] at e; exact ⟨hkj, e⟩
    have away : ∀ j o1 q, j ≠ st.n → st'.hp.get j = some o1 → o1.live = true → σ j = some q → q.1 ≠ g := fun j o1 q hj e l hq eg => by
      obtain ⟨a1, a2⟩ := old j o1 hj e l
      rcases hg with hs | hs
      · exact a1 (hk2 j o1 q a2 l hq (eg ▸ hs))
      · have := (H.dom j q hq).2; omega
    by_cases hji : j = st.n <;> by_cases hki : k = st.n
    · rw [hji, hki]
    · subst hji
      rw [upd_same] at q1; cases q1
      rw [upd_other _ _ hki] at q2
      exact absurd hq.symm (away k o2 r hki e2 l2 q2)
    · subst hki
      rw [upd_same] at q2; cases q2
      rw [upd_other _ _ hji] at q1
      exact absurd hq (away j o1 q hji e1 l1 q1)
    · rw [upd_other _ _ hji] at q1
      rw [upd_other _ _ hki] at q2
      exact H.inj j k o1 o2 q r (old j o1 hji e1 l1).2 (old k o2 hki e2 l2).2 l1 l2 q1 q2 hq
  · obtain ⟨i, q, h1, h2, h3⟩ := hS b hs
    exact hne i q h1 (hpre _ _ h2) h3
  · by_cases hji : j = st.n
    · subst hji
      rw [upd_same] at e2; cases e2
      rcases hg with hs | hs
      · obtain ⟨i, q, h1, h2, h3⟩ := hS g hs
        exact ⟨i, q, h1, h2, h3⟩
      · simp only at hq; omega
    · rw [upd_other _ _ hji, e1] at e2; cases e2
end Go.Proofs.YtdielfpgekenkaaGreatDoor.Sx
namespace Go.Proofs.YtdielfpgekenkaaGreatDoor.Sx
open Go Vm
set_option linter.unusedSimpArgs false
set_option linter.unusedVariables false
/-- how an operation comes out -/
def Out (ng : Nat) (st : St) (σ : Env) (h : Heap) {β : Type} (k : SV → St → Option β) (r : β) (v : Value) (h' : Heap) : Prop :=
  ∃ s st' σ', k s st' = some r ∧ den σ' s = some v ∧ Goes ng st σ h st' σ' h'
section
variable {C : Cx} (hC : CxOk C) {ng : Nat} {st : St} {σ : Env} {h : Heap} {sf : SF} {fr : Fr} {β : Type} {k : SV → St → Option β} {r : β}
theorem oneB_ok {s : SV} {v : Value} (h : oneB s = true) (e : den σ s = some v) : v.oneCell' = true := by
  cases v <;> first
    | rfl
    | (exfalso
       cases s <;> simp [den, Option.bind_eq_some_iff, oneB] at e h
       done)
theorem onesB_ok : ∀ (l : List SV) (vs : List Value), onesB l = true → denL σ l = some vs → ∀ v ∈ vs, v.oneCell' = true
  | [], vs, _, e => by simp only [denL, Option.some.injEq] at e; subst e; simp
  | s :: l, vs, h, e => by
    simp only [onesB, Bool.and_eq_true] at h
    simp only [denL, Option.bind_eq_some_iff, Option.map_eq_some_iff] at e
    obtain ⟨u, h1, us, h2, rfl⟩ := e
    intro v hv
    simp only [List.mem_cons] at hv
    rcases hv with rfl | hv
    · exact oneB_ok h.1 h1
    · exact onesB_ok l us h.2 h2 v hv
theorem objR_new {q : Nat × Nat} {l : List SV} {vs : List Value} {t : Nat} (h1 : denL σ l = some vs) (h2 : onesB l = true) : objR σ q (some (.cells vs.toArray t (0, 0))) (.row l t none true) :=
  ⟨vs, [], (0, 0), h1, onesB_ok l vs h2 h1, by simp, rfl, fun _ => rfl⟩
/-- a new row -/
theorem row_new (H : Rep ng st σ h) {l : List SV} {vs : List Value} {t : Nat} (h1 : denL σ l = some vs) (h2 : onesB l = true) {k : Nat → St → Option β} (e : newS st (.row l t none true) k = some r) {h' : Heap} (hN : Newed h h' (.cells vs.toArray t)) :
    ∃ st', k st.n st' = some r ∧ Goes ng st σ h st' (upd σ st.n (h.size, 0)) h' :=
  newS_ok H (cap := 0) hN (fun σ' hp => objR_new (denL_mono hp _ _ h1) h2) e
include hC in
theorem alloc_ok (H : Rep ng st σ h) {o : Oper} {T : Nat} (ho : o.op = .alloc T) {call : Nat → List SV → St → Option (SV × St)} (e : C.opi call o sf st k = some r) : Vm.opi C.P o fr h (Out ng st σ h k r) := by
  unfold Cx.opi at e
  simp only [ho, Option.bind_eq_some_iff, hC.info] at e
  obtain ⟨i, hi, zv, hz, z, hzs, e⟩ := e
  split at e
  · rename_i h1
    obtain ⟨us, hus, hcv⟩ := den_cells (ofV_den σ zv z hzs)
    unfold Vm.opi
    simp only [ho, hi, hz]
    intro h' hN
    rw [hcv] at hN
    obtain ⟨st', e', hG⟩ := row_new H hus h1 e hN
    exact ⟨_, st', _, e', by simp only [den, upd_same, Option.map_some], hG⟩
  · cases e
theorem box_ok (hF : Frm σ sf fr) (H : Rep ng st σ h) {o : Oper} {T : Nat} {x : Operand} (ho : o.op = .box T x) {call : Nat → List SV → St → Option (SV × St)} (e : C.opi call o sf st k = some r) : Vm.opi C.P o fr h (Out ng st σ h k r) := by
  unfold Cx.opi at e
  simp only [ho, Option.bind_eq_some_iff] at e
  obtain ⟨z, hz, e⟩ := e
  obtain ⟨v, v1, v2⟩ := evO_ok hF hz
  split at e
  · rename_i h1
    obtain ⟨us, hus, hcv⟩ := den_cells v2
    unfold Vm.opi
    simp only [ho, evk_of v1]
    intro h' hN
    rw [hcv] at hN
    obtain ⟨st', e', hG⟩ := row_new H hus h1 e hN
    exact ⟨_, st', _, e', by simp only [den, upd_same, Option.map_some], hG⟩
  · cases e
/-! ### rows of zeros -/
theorem repS_ok {l : List SV} {vs : List Value} (e : denL σ l = some vs) : ∀ n, denL σ (repS n l) = some ((List.range (n * vs.length)).map fun i => vs[i % vs.length]!)
  | 0 => by simp [repS, denL]
  | n + 1 => by
    have ih := repS_ok e n
    unfold repS
    have := denL_append _ _ _ _ e ih
    rw [this]
    congr 1
    rw [Nat.succ_mul, Nat.add_comm (n * vs.length), List.range_add, List.map_append, List.map_map]
    congr 1
    · apply List.ext_getElem?
      intro i
      by_cases hi : i < vs.length
      · simp [hi, Nat.mod_eq_of_lt hi]
      · simp [hi]
    · apply List.map_congr_left
      intro i _
      simp
theorem madeCells_eq (vs : List Value) (n : Nat) : madeCells vs.toArray n = ((List.range n).map fun i => vs[i % vs.length]!).toArray := by
  unfold madeCells
  apply Array.ext'
  simp
theorem onesB_rep {l : List SV} (h : onesB l = true) : ∀ n, onesB (repS n l) = true := by
  have app : ∀ a b : List SV, onesB a = true → onesB b = true → onesB (a ++ b) = true := by
    intro a
    induction a with
    | nil => intro b _ h; exact h
    | cons x a ih => intro b h1 h2; simp only [onesB, Bool.and_eq_true, List.cons_append] at h1 ⊢; exact ⟨h1.1, ih b h1.2 h2⟩
  intro n
  induction n with
  | zero => rfl
  | succ n ih => exact app _ _ h ih
include hC in
theorem makeSlice_ok (hF : Frm σ sf fr) (H : Rep ng st σ h) {o : Oper} {t : Nat} {x y : Operand} (ho : o.op = .makeSlice t x y) {call : Nat → List SV → St → Option (SV × St)} (e : C.opi call o sf st k = some r) : Vm.opi C.P o fr h (Out ng st σ h k r) := by
  unfold Cx.opi at e
  simp only [ho, Option.bind_eq_some_iff, hC.und] at e
  obtain ⟨ls, hl, cs, hc, e⟩ := e
  obtain ⟨lv, l1, l2⟩ := evO_ok hF hl
  obtain ⟨cv, c1, c2⟩ := evO_ok hF hc
  split at e
  · rename_i kl ln kc cn el ht
    simp only [Option.bind_eq_some_iff] at e
    obtain ⟨sz, hs, z, hz, e⟩ := e
    obtain ⟨i, zv, hi, hzv, hd⟩ := zero_ok hC hz (σ := σ)
    obtain ⟨i', hi', rfl⟩ := hC.size hs
    rw [hi] at hi'; cases hi'
    split at e
    · rename_i h1
      obtain ⟨g1, g2, g3, g4⟩ := h1
      rw [forceVs_eq] at e
      obtain ⟨us, hus, hcv⟩ := den_cells hd
      have hlen := denL_length _ _ hus
      have := den_i l2; subst this
      have := den_i c2; subst this
      obtain ⟨b1, b2⟩ := hC.roomB hi g2
      unfold Vm.opi
      simp only [ho, evk_of l1, evk_of c1, ht, hi, hzv]
      have b1' : (i.bytes : Int) * (cn : Int) ≤ 1073741824 := by
        have : ((cn * i.bytes : Nat) : Int) ≤ ((1073741824 : Nat) : Int) := Int.ofNat_le.2 b1
        rw [Int.natCast_mul, Int.mul_comm] at this
        exact this
      refine ⟨⟨Int.natCast_nonneg _, by simpa using g1, Int.le_trans b1' (by decide), by show (cn : Int) ≤ _; omega⟩, ?_⟩
      intro h' hN
      have ec : (Int.ofNat cn).toNat = cn := rfl
      have el' : (Int.ofNat ln).toNat = ln := rfl
      have e1 : cn * i.size = cn * us.length := by rw [hlen, g3]
      rw [ec, hcv, madeCells_eq, e1] at hN
      have hrow := repS_ok hus cn
      obtain ⟨st', e', hG⟩ := row_new H hrow (onesB_rep g4 cn) e hN
      refine ⟨_, st', _, e', ?_, hG⟩
      rw [ec, el']
      simp only [den]
      rw [if_pos ⟨g1, by simp only [maxLen]; omega⟩, upd_same]
      rfl
    · cases e
  · cases e
/-! ### literals of slices -/
theorem zeros_eq (vs : List Value) (n : Nat) : (Array.range n).map (fun i => vs.toArray[i % vs.toArray.size]!) = ((List.range n).map fun i => vs[i % vs.length]!).toArray := by
  apply Array.ext'
  simp
include hC in
theorem buildSlice_ok (hF : Frm σ sf fr) (H : Rep ng st σ h) {o : Oper} {t len : Nat} {parts : Array (Nat × Operand)} (ho : o.op = .buildSlice t len parts) {call : Nat → List SV → St → Option (SV × St)} (e : C.opi call o sf st k = some r) : Vm.opi C.P o fr h (Out ng st σ h k r) := by
  unfold Cx.opi at e
  simp only [ho, Option.bind_eq_some_iff, hC.und] at e
  obtain ⟨ps, hp, e⟩ := e
  obtain ⟨vs, p1, p2⟩ := evPs_ok hF _ _ hp
  split at e
  · rename_i el ht
    simp only [Option.bind_eq_some_iff] at e
    obtain ⟨sz, hs, z, hz, e⟩ := e
    obtain ⟨i, zv, hi, hzv, hd⟩ := zero_ok hC hz (σ := σ)
    obtain ⟨i', hi', rfl⟩ := hC.size hs
    rw [hi] at hi'; cases hi'
    split at e
    · rename_i h1
      obtain ⟨g1, g2, g0⟩ := h1
      simp only [Option.bind_eq_some_iff] at e
      obtain ⟨l, hl, e⟩ := e
      rw [forceVs_eq] at e
      split at e
      · rename_i g3
        obtain ⟨us, hus, hcv⟩ := den_cells hd
        have hlen := denL_length _ _ hus
        obtain ⟨ov, o1, o2, o3⟩ := fillS_ok ps vs _ l _ p2 (repS_ok hus len) hl
        have hroom := hC.room
        have elen : len * us.length = len * i.size := by rw [hlen, g2]
        rw [elen] at o2 o3
        have hlm : len ≤ maxLen := by simp only [maxLen]; omega
        unfold Vm.opi
        simp only [ho]
        refine ⟨vs, p1, ov.toArray, el, fun w => ?_, ?_⟩
        · unfold Instr.buildSlice
          simp only [Sem.run_bind, run_underlying ht, Result.andThen_ok, Vm.run_sizeOf hi]
          rw [if_neg (by omega)]
          by_cases h0 : len * i.size = 0
          · have e2 : (Array.range (len * i.size)).map (fun i => (#[] : Array Value)[i % (#[] : Array Value).size]!) = ((List.range (len * i.size)).map fun i => us[i % us.length]!).toArray := by
              rw [h0]; simp
            simp only [if_pos h0, Sem.run_bind, Sem.run_pure, Result.andThen_ok, List.toList_toArray]
            rw [e2, o2]
            rfl
          · simp only [if_neg h0, Sem.run_bind, run_zero hi hzv, Result.andThen_ok, Sem.run_pure, List.toList_toArray, hcv]
            rw [zeros_eq, o2]
            rfl
        · intro h' hN
          obtain ⟨st', e', hG⟩ := row_new H o1 g3 e hN
          refine ⟨_, st', _, e', ?_, hG⟩
          simp only [den]
          rw [if_pos ⟨Nat.le_refl _, hlm⟩, upd_same]
          rfl
      · cases e
    · cases e
  · cases e
end
end Go.Proofs.YtdielfpgekenkaaGreatDoor.Sx
namespace Go.Proofs.YtdielfpgekenkaaGreatDoor.Sx
open Go Vm
set_option linter.unusedSimpArgs false
set_option linter.unusedVariables false
section
variable {C : Cx} (hC : CxOk C) {ng : Nat} {st : St} {σ : Env} {h : Heap} {sf : SF} {fr : Fr} {β : Type} {k : SV → St → Option β} {r : β}
theorem gR_len {q : Nat × Nat} {n : Nat} {tl : List Value} {g : Option Nat} (H : gR q n tl g) {n' : Nat} (e : n' = n) : gR q n' tl g := e ▸ H
/-- a row's cells, turned in a part -/
theorem row_turn (H : Rep ng st σ h) {id off : Nat} {l new : List SV} {us : List Value} {t : Nat} {g : Option Nat} (e : rowW st id = some (l, t, g)) (hu : denL σ new = some us) (ho : ∀ v ∈ us, v.oneCell' = true) (hf : off + new.length ≤ l.length) :
    ∃ q cur, σ id = some q ∧ Blk h q.1 cur t ∧ off + us.length ≤ cur.length ∧ ∀ h', Wrote h h' q.1 (splice cur off us) t → ∀ {k : St → Option β} {r : β}, writeS st id (.row (l.take off ++ new ++ l.drop (off + new.length)) t g true) k = some r →
      ∃ st', k st' = some r ∧ Goes ng st σ h st' σ h' := by
  obtain ⟨q, vs, tl, hq, hl, h1, hb, hg, ho'⟩ := row_wr (H.obs (Pre.refl _)) e
  have e1 := denL_length _ _ hl
  have e2 := denL_length _ _ hu
  refine ⟨q, vs ++ tl, hq, hb, by simp only [List.length_append]; omega, fun h' hw k r e => ?_⟩
  have hs : splice (vs ++ tl) off us = (vs.take off ++ us ++ vs.drop (off + us.length)) ++ tl := by
    unfold splice
    rw [List.take_append_of_le_length (by omega), List.drop_append_of_le_length (by omega)]
    simp
  rw [hs] at hw
  have hob : objR σ q (some (.cells ((vs.take off ++ us ++ vs.drop (off + us.length)) ++ tl).toArray t (0, 0))) (.row (l.take off ++ new ++ l.drop (off + new.length)) t g true) := by
    refine ⟨vs.take off ++ us ++ vs.drop (off + us.length), tl, (0, 0), ?_, ?_, rfl, gR_len hg ?_, fun _ => rfl⟩
    · rw [← e2]
      exact denL_append _ _ _ _ (denL_append _ _ _ _ (denL_take _ _ _ hl) hu) (denL_drop _ _ _ hl)
    · intro v hv
      simp only [List.mem_append] at hv
      rcases hv with (hv | hv) | hv
      · exact h1 v (List.mem_of_mem_take hv)
      · exact ho v hv
      · exact h1 v (List.mem_of_mem_drop hv)
    · simp only [List.length_append, List.length_take, List.length_drop]; omega
  obtain ⟨st', e', hG, _⟩ := writeS_ok H ho' rfl hq (Wrote.turns hw) hob e
  exact ⟨st', e', hG⟩
/-- a row's cells, turned in a part -/
theorem row_turn2 (H : Rep ng st σ h) {id off : Nat} {l new : List SV} {us : List Value} {t : Nat} {g : Option Nat} (e : rowW st id = some (l, t, g)) (hu : denL σ new = some us) (ho : ∀ v ∈ us, v.oneCell' = true) (hf : off + new.length ≤ l.length) :
    ∃ q cur, σ id = some q ∧ Blk h q.1 cur t ∧ off + us.length ≤ cur.length ∧ ∀ h', Wrote h h' q.1 (splice cur off us) t → ∀ {k : St → Option β} {r : β}, writeS st id (.row (l.take off ++ new ++ l.drop (off + new.length)) t g true) k = some r →
      ∃ st', k st' = some r ∧ Goes ng st σ h st' σ h' ∧ st'.n = st.n ∧ st'.low = min st.low id := by
  obtain ⟨q, vs, tl, hq, hl, h1, hb, hg, ho'⟩ := row_wr (H.obs (Pre.refl _)) e
  have e1 := denL_length _ _ hl
  have e2 := denL_length _ _ hu
  refine ⟨q, vs ++ tl, hq, hb, by simp only [List.length_append]; omega, fun h' hw k r e => ?_⟩
  have hs : splice (vs ++ tl) off us = (vs.take off ++ us ++ vs.drop (off + us.length)) ++ tl := by
    unfold splice
    rw [List.take_append_of_le_length (by omega), List.drop_append_of_le_length (by omega)]
    simp
  rw [hs] at hw
  have hob : objR σ q (some (.cells ((vs.take off ++ us ++ vs.drop (off + us.length)) ++ tl).toArray t (0, 0))) (.row (l.take off ++ new ++ l.drop (off + new.length)) t g true) := by
    refine ⟨vs.take off ++ us ++ vs.drop (off + us.length), tl, (0, 0), ?_, ?_, rfl, gR_len hg ?_, fun _ => rfl⟩
    · rw [← e2]
      exact denL_append _ _ _ _ (denL_append _ _ _ _ (denL_take _ _ _ hl) hu) (denL_drop _ _ _ hl)
    · intro v hv
      simp only [List.mem_append] at hv
      rcases hv with (hv | hv) | hv
      · exact h1 v (List.mem_of_mem_take hv)
      · exact ho v hv
      · exact h1 v (List.mem_of_mem_drop hv)
    · simp only [List.length_append, List.length_take, List.length_drop]; omega
  obtain ⟨st', e', hG, h5, _, h6⟩ := writeS_ok H ho' rfl hq (Wrote.turns hw) hob e
  exact ⟨st', e', hG, h5, h6⟩
include hC in
theorem store_ok (hF : Frm σ sf fr) (H : Rep ng st σ h) {o : Oper} {T : Nat} {x y : Operand} (ho : o.op = .store T x y) {call : Nat → List SV → St → Option (SV × St)} (e : C.opi call o sf st k = some r) : Vm.opi C.P o fr h (Out ng st σ h k r) := by
  unfold Cx.opi at e
  simp only [ho, Option.bind_eq_some_iff] at e
  obtain ⟨xs, hx, ys, hy, e⟩ := e
  obtain ⟨xv, x1, x2⟩ := evO_ok hF hx
  obtain ⟨yv, y1, y2⟩ := evO_ok hF hy
  split at e
  · rename_i id off
    unfold Cx.storeS at e
    simp only [Option.bind_eq_some_iff] at e
    obtain ⟨⟨l, t, g⟩, hr, s, hs, e⟩ := e
    obtain ⟨i, hi, rfl⟩ := hC.size hs
    split at e
    · rename_i hc
      obtain ⟨c1, c2, c3⟩ := hc
      rw [forceVs_eq] at e
      obtain ⟨us, hus, hcv⟩ := den_cells y2
      have e2 := denL_length _ _ hus
      obtain ⟨q, cur, hq, hb, hle, hw⟩ := row_turn H hr hus (onesB_ok _ _ c3 hus) (by rw [c1]; exact c2) (β := β)
      obtain ⟨q', hq', rfl⟩ := den_p x2
      rw [hq] at hq'; cases hq'
      unfold Vm.opi
      simp only [ho, evk_of x1, evk_of y1, hi]
      have fin : ∀ h', Wrote h h' q.1 (splice cur off us) t → Out ng st σ h k r undef h' := fun h' w => by
        rw [← c1] at e
        obtain ⟨st', e', hG⟩ := hw h' w e
        exact ⟨undefS, st', σ, e', rfl, hG⟩
      unfold storek
      have hones := onesB_ok _ _ c3 hus
      split
      · rename_i cs
        simp only [Value.cells] at hcv
        subst hcv
        refine ⟨cur, t, hb, ⟨by simpa using hle, by simp only [List.size_toArray]; omega, by simpa using hones⟩, fun h' w => fin h' (by simpa using w)⟩
      · simp only [Value.cells] at hcv
        rename_i tv
        have : us = [.tuple tv] := by simpa using hcv.symm
        subst this
        have := hones _ (List.mem_singleton.2 rfl)
        cases this
      · rename_i hna hnt
        have hus1 : us = [yv] := by
          have : yv.cells = #[yv] := by cases yv <;> first | rfl | exact absurd rfl (hna _)
          rw [this] at hcv
          simpa using hcv.symm
        subst hus1
        simp only [List.length_singleton] at hle e2
        rw [if_pos (by omega)]
        refine ⟨cur, t, hb, by omega, fun h' w => fin h' ?_⟩
        have : splice cur off [yv] = cur.set off yv := by
          unfold splice
          rw [List.set_eq_take_append_cons_drop, if_pos (by omega)]
          simp
        rw [this]
        exact w
    · cases e
  · cases e
/-! ### append -/
theorem append_zero {P : Program} {t ty e : TypeId} {i : TypeInfo} (ht : P.underlying t = some (.slice e)) (hi : P.info? e = some i) (A B : Option Addr) {n c c' : Nat} (hn : n ≤ c) (w : World) :
    (Builtin.append_ #[t, t] ty #[.slice A n c, .slice B 0 c']).run P w = .ok (.slice A n c) w := by
  have hl : ∀ (x : Addr), (loadCells x 0).run P w = .ok #[] w := fun x => by simpa using run_loadCells_list (P := P) w x [] (by simp)
  cases A <;> cases B <;> simp [Builtin.append_, run_underlying ht, Vm.run_sizeOf hi, Builtin.lenOf, Builtin.firstCells, hn, storeCells, hl]
/-- a slice that is read, off a row -/
theorem src_of (hO : Obs st σ h) {z n : Nat} {x : SV} {new : List SV} {xv : Value} (hn : lenS x = some n) (he : Cx.elemsS st z x = some new) (hx : den σ x = some xv) (h0 : n ≠ 0) :
    ∃ ds, denL σ new = some ds ∧ Src h z xv n ds ∧ (∀ u ∈ ds, u.oneCell' = true) := by
  have mk : ∀ (id off cap : Nat) (q : Nat × Nat), σ id = some q → xv = .slice (some ⟨q.1, off, none⟩) n cap → n ≤ cap → cap ≤ maxLen →
      ((rowOf st id).bind fun r => if off + n * z ≤ r.1.length then some ((r.1.drop off).take (n * z)) else none) = some new → ∃ ds, denL σ new = some ds ∧ Src h z xv n ds ∧ (∀ u ∈ ds, u.oneCell' = true) := by
    intro id off cap q hq hxv h1 h2 he
    simp only [Option.bind_eq_some_iff] at he
    obtain ⟨⟨l, t, g⟩, hr, he⟩ := he
    split at he
    · rename_i hlen
      cases he
      obtain ⟨q', vs, tl, hq', hl, ho, hb, _⟩ := row_rd hO hr
      rw [hq] at hq'; cases hq'
      have e1 := denL_length _ _ hl
      simp only at hlen
      have e2 : ((vs.drop off).take (n * z)).length = n * z := by simp only [List.length_take, List.length_drop]; omega
      refine ⟨_, take_drop_den hl _ _, ⟨e2, .inr ⟨_, cap, hxv, h1, h2, rdA_plain.2 (hb.rdN off _ ?_)⟩⟩, fun u hu => ho u (List.mem_of_mem_drop (List.mem_of_mem_take hu))⟩
      rw [e2, List.drop_append_of_le_length (by omega), List.take_append_of_le_length (by simp only [List.length_drop]; omega)]
    · cases he
  unfold lenS at hn
  split at hn
  · cases hn; exact absurd rfl h0
  · cases hn
    obtain ⟨q, hq, hc, hv⟩ := den_sl hx
    exact mk _ _ _ q hq hv hc.1 hc.2 he
  · cases hn
    obtain ⟨q, hq, hc, hv⟩ := den_sg hx
    exact mk _ _ _ q hq hv (by omega) (by omega) he
  · cases hn; exact absurd rfl h0
  · cases hn
theorem zcells (hC : CxOk C) {e : Nat} {zs : SV} {i : TypeInfo} (hz : C.zero e = some zs) (hi : C.P.info? e = some i) (hl : (cellsS zs).length = i.size) : ∃ z, i.zero = some z ∧ z.cells.size = i.size := by
  obtain ⟨i', z, hi', hz', hd⟩ := zero_ok hC hz (σ := fun _ => none)
  rw [hi] at hi'; cases hi'
  obtain ⟨us, h1, h2⟩ := den_cells hd
  exact ⟨z, hz', by rw [h2]; simp only [List.size_toArray]; rw [denL_length _ _ h1]; exact hl⟩
/-- what may be appended: n elements, the cells ds -/
structure Tail (P : Program) (t t2 ty e : TypeId) (i : TypeInfo) (xv : Value) (n : Nat) (ds : List Value) (h : Heap) : Prop where
  len : ds.length = n * i.size
  one : ∀ u ∈ ds, u.oneCell' = true
  nil : ∀ z w, w.heap = h → i.zero = some z → n ≤ maxLen → n * i.bytes ≤ 140737488355328 → (Builtin.append_ #[t, t2] ty #[.slice none 0 0, xv]).run P w =
      .ok (.slice (some ⟨w.heap.size, 0, none⟩) n (grownCap w n 0 e)) (w.drew.alloc (.cells (ds.toArray ++ Builtin.zeroCells z.cells (grownCap w n 0 e - n)) e))
  room : ∀ w, w.heap = h → ∀ (g sLen sCap : Nat) (cur : Array Value), w.heap[g]? = some (.cells cur e (0, 0)) → sLen + n ≤ sCap → sLen * i.size + ds.length ≤ cur.size → (Builtin.append_ #[t, t2] ty #[.slice (some ⟨g, 0, none⟩) sLen sCap, xv]).run P w =
      .ok (.slice (some ⟨g, 0, none⟩) (sLen + n) sCap) (w.setRow g (cur.toList.take (sLen * i.size) ++ ds ++ cur.toList.drop (sLen * i.size + ds.length)).toArray)
  grow : ∀ z w, w.heap = h → i.zero = some z → ∀ (b : Addr) (sLen sCap : Nat) (olds : List Value), olds.length = sLen * i.size → (∀ j v, olds[j]? = some v → w.cell? (b.add j) = some v) → sCap < sLen + n → sLen + n ≤ maxLen → (sLen + n) * i.bytes ≤ 140737488355328 →
      (Builtin.append_ #[t, t2] ty #[.slice (some b) sLen sCap, xv]).run P w =
      .ok (.slice (some ⟨w.heap.size, 0, none⟩) (sLen + n) (grownCap w (sLen + n) sCap e)) (w.drew.alloc (.cells (olds.toArray ++ ds.toArray ++ Builtin.zeroCells z.cells (grownCap w (sLen + n) sCap e - (sLen + n))) e))
theorem tail_slice {P : Program} {t ty e : TypeId} {i : TypeInfo} (ht : P.underlying t = some (.slice e)) (hi : P.info? e = some i) {xv : Value} {n : Nat} {ds : List Value} (hs : Src h i.size xv n ds) (h1 : ∀ u ∈ ds, u.oneCell' = true) (h0 : n ≠ 0) : Tail P t t ty e i xv n ds h := by
  rcases hs.2 with ⟨_, h00⟩ | ⟨X, c, rfl, hmc, hcm, hr⟩
  · exact absurd h00 h0
  · have hnews : ∀ w : World, w.heap = h → ∀ j u, ds[j]? = some u → w.cell? (X.add j) = some u := fun w hw j u hu => by rw [cell_eq_rd, hw]; exact hr j u hu
    refine ⟨hs.1, h1, fun z w hw hz hm hb => ?_, fun w hw g sLen sCap cur hg hroom hfit => ?_, fun z w hw hz b sLen sCap olds hlo ho hg hm hb => ?_⟩
    · exact run_append_nil (P := P) w t ty e i z ht hi hz X n c ds hs.1 (hnews w hw) (by omega) (by simp only [maxLen] at hm; omega) (by omega)
    · exact run_append_room (P := P) w t ty e i ht hi g sLen sCap cur hg X n c ds hs.1 (hnews w hw) h1 hroom hfit
    · exact run_append_grow (P := P) w t ty e i z ht hi hz b sLen sCap olds hlo ho X n c ds hs.1 (hnews w hw) hg (by simp only [maxLen] at hm; omega) (growslice_fits (by omega) hb)
def vbyte (b : Nat) : Value := .int .u8 (Int.ofNat b)
theorem str_cells {l : List Nat} (al : l.all (Nat.blt · 256) = true) : Lib.strCells (bytesOf l) = l.map vbyte := by
  unfold Lib.strCells
  simp only [bytesOf, List.toList_toArray, List.map_map]
  apply List.map_congr_left
  intro b hb
  have hlt : b < 256 := by simpa using List.all_eq_true.1 al b hb
  simp only [Function.comp, UInt8.toNat_ofNat_of_lt' hlt, vbyte]
  rfl
theorem tail_str {P : Program} {t u ty e : TypeId} {i : TypeInfo} (ht : P.underlying t = some (.slice e)) (hu : P.underlying u = some .string) (hi : P.info? e = some i) (hs1 : i.size = 1) {l : List Nat} (al : l.all (Nat.blt · 256) = true) (h0 : l.length ≠ 0) :
    Tail P t u ty e i (.string (bytesOf l)) l.length (l.map vbyte) h := by
  have hsz := bytesOf_size l
  have hc := str_cells al
  refine ⟨by simp [hs1], fun v hv => ?_, fun z w hw hz hm hb => ?_, fun w hw g sLen sCap cur hg hroom hfit => ?_, fun z w hw hz b sLen sCap olds hlo ho hg hm hb => ?_⟩
  · obtain ⟨b, _, rfl⟩ := List.mem_map.1 hv; rfl
  · have := run_append_nil_string (P := P) w t u ty e i z ht hu hi hz (bytesOf l) (by omega) (by rw [hsz]; simp only [maxLen] at hm; omega) (by rw [hsz]; omega)
    rw [hsz] at this
    rw [this]
    congr 4
    apply Array.ext'
    rw [List.toList_toArray, ← hc]
    unfold Lib.strCells
    simp
  · have := Lib.run_append_room_string (P := P) w t u ty e i ht hu hi hs1 g sLen sCap cur hg (bytesOf l) (by rw [hsz]; exact hroom) (by rw [hsz]; simpa [hs1] using hfit)
    rw [hsz, hc] at this
    simpa [hs1] using this
  · have := Lib.run_append_grow_string (P := P) w t u ty e i z ht hu hi hz b sLen sCap olds hlo ho (bytesOf l) (by rw [hsz]; exact hg) (by rw [hsz]; simp only [maxLen] at hm; omega) (by rw [hsz]; exact growslice_fits (by omega) hb)
    rw [hsz, hc] at this
    exact this
theorem tail_own {P : Program} {t t2 ty e : TypeId} {i : TypeInfo} {z : Value} (hz : i.zero = some z) (hzs : z.cells.size = i.size) {v x : Value} {n m : Nat} {xs ds : List Value} (hd : OwnS h e i.size v n xs) (T : Tail P t t2 ty e i x m ds h) (h0 : m ≠ 0)
    (hm : n + m ≤ maxLen) (hb : (n + m) * i.bytes ≤ 140737488355328) : RunsV P (Builtin.append_ #[t, t2] ty #[v, x]) h (Appended e i.size v h (n + m) (xs ++ ds)) := by
  intro w hw
  have hw0 := hw
  subst hw
  have hlen : (xs ++ ds).length = (n + m) * i.size := by rw [List.length_append, hd.1, T.len, Nat.add_mul]
  rcases hd.2 with ⟨rfl, rfl⟩ | ⟨g, cap, tl, rfl, hg, hnc, hcm', hcl⟩
  · have hx : xs = [] := List.eq_nil_of_length_eq_zero (by simpa using hd.1)
    subst hx
    have hrun := T.nil z w rfl hz (by omega) (by simp only [Nat.zero_add] at hb; exact hb)
    refine ⟨_, _, hrun, ⟨rfl, rfl, rfl⟩, ?_, (alloc_ext w _).chg, fun d hd' => .inr (by rw [ob_slice] at hd'; omega)⟩
    simp only [Nat.zero_add, List.nil_append] at hlen hm ⊢
    exact owns_grown hzs rfl hlen (grownCap_ge w m 0 e) (grownCap_le_maxLen w m 0 e hm)
  · by_cases hroom : n + m ≤ cap
    · have hfit : n * i.size + ds.length ≤ (xs ++ tl).toArray.size := by
        rw [T.len, ← Nat.add_mul]
        simp only [List.size_toArray, hcl]
        exact Nat.mul_le_mul_right _ hroom
      have hrun := T.room w rfl g n cap (xs ++ tl).toArray hg hroom hfit
      have hwr := heap_setRow w g (((xs ++ tl).toArray.toList.take (n * i.size) ++ ds ++ (xs ++ tl).toArray.toList.drop (n * i.size + ds.length)).toArray) (xs ++ tl).toArray e hg
      have ecells : (xs ++ tl).toArray.toList.take (n * i.size) ++ ds ++ (xs ++ tl).toArray.toList.drop (n * i.size + ds.length) = (xs ++ ds) ++ tl.drop ds.length := by
        simp only [← hd.1]
        rw [List.take_left, List.drop_append]
        simp
      refine ⟨_, _, hrun, ⟨rfl, rfl, rfl⟩, ⟨hlen, .inr ⟨g, cap, tl.drop ds.length, rfl, ?_, hroom, hcm', ?_⟩⟩, ?_, fun d hd' => .inl (by rw [ob_slice] at hd' ⊢; exact hd')⟩
      · have := hwr.new
        rw [ecells] at this
        simpa [ecells] using this
      · rw [← hcl]
        simp only [List.length_append, List.length_drop, T.len]
        simp only [List.size_toArray, List.length_append, hd.1] at hfit
        rw [T.len] at hfit
        rw [hd.1]
        omega
      · exact hwr.chg.mono (fun k _ hk => by rw [ob_slice]; exact hk)
    · have holds : ∀ j u, xs[j]? = some u → w.cell? ((⟨g, 0, none⟩ : Addr).add j) = some u := fun j u hu => by
        rw [add_none, cell_eq_rd]
        exact hg.rdN 0 xs (by simp) j u hu
      have hrun := T.grow z w rfl hz ⟨g, 0, none⟩ n cap xs hd.1 holds (by omega) hm hb
      refine ⟨_, _, hrun, ⟨rfl, rfl, rfl⟩, ?_, (alloc_ext w _).chg, fun d hd' => .inr (by rw [ob_slice] at hd'; omega)⟩
      have := owns_grown (e := e) (w := w) hzs rfl hlen (grownCap_ge w (n + m) cap e) (grownCap_le_maxLen w (n + m) cap e hm)
      simpa using this
/-- a slice that has grown: its row -/
theorem grown_obj {σ' : Env} {g cap z N : Nat} {e : Nat} {l : List SV} {xs tl : List Value} {h' : Heap} (hl : denL σ' l = some xs) (ho : ∀ u ∈ xs, u.oneCell' = true) (hb : Blk h' g (xs ++ tl) e) (hc : cap ≤ maxLen) (hlen : (xs ++ tl).length = cap * z) :
    objR σ' (g, cap) h'[g]? (.row l e (some z) true) := ⟨xs, tl, (0, 0), hl, ho, hb, ⟨hlen, hc⟩, fun _ => rfl⟩
theorem own_new (H : Rep ng st σ h) {l : List SV} {xs : List Value} {el z N : Nat} {v' : Value} {h' : Heap} (hl : denL σ l = some xs) (h1 : ∀ u ∈ xs, u.oneCell' = true) (hown : OwnS h' el z v' N xs) (hN : N ≠ 0) (hx : ExtH h h') (hob : ∀ b, ob v' b → h.size ≤ b)
    (e : (newS st (.row l el (some z) true) fun id st => k (.sg id 0 0 N) st) = some r) : Out ng st σ h k r v' h' := by
  rcases hown.2 with ⟨_, h00⟩ | ⟨g, cap, tl, rfl, hb, hnc, hcm, hcl⟩
  · exact absurd h00 hN
  · have hg : h.size ≤ g := hob g (ob_slice.2 rfl)
    unfold newS at e
    obtain ⟨hp, ek, hpg⟩ := setK_some _ _ _ _ _ _ e
    rw [forceN_eq] at ek
    have hpre := upd_pre (g, cap) (H.none_n (Nat.le_refl st.n))
    refine ⟨_, _, upd σ st.n (g, cap), ek, ?_, ?_⟩
    · simp only [den, upd_same, Option.bind_some]
      rw [if_pos ⟨by omega, hcm⟩]
      simp
    · refine H.grown (S := fun _ => False) hx.chg (kill := fun _ => False) (o := .row l el (some z) true) (ob := .cells (xs ++ tl).toArray el (0, 0)) (fun _ h => h.elim) (fun _ _ _ _ _ _ h => h) (.inr hg) hb (fun _ h => h.elim) rfl (Nat.le_refl _) ?_ (fun _ h => h.elim) (fun j _ hj => ?_) ?_
      · simp [hpg]
      · simp [hpg, hj]
      · have := grown_obj (denL_mono hpre _ _ hl) h1 hb hcm hcl (N := 0)
        rw [show h'[g]? = some (.cells (xs ++ tl).toArray el (0, 0)) from hb] at this
        exact this
set_option maxHeartbeats 4000000 in
include hC in
theorem appendN_ok (H : Rep ng st σ h) {t t2 ty el len n c : Nat} {s zv : SV} {xv : Value} {A : Option Addr} {new : List SV} {ds : List Value} {i : TypeInfo} (hi : C.P.info? el = some i) (hzv : C.zero el = some zv) (hlen : lenS s = some len)
    (ha1 : len ≤ c) (ha2 : c ≤ maxLen) (e : C.appendN st el i.size zv len n new s k = some r) (hs : den σ s = some (.slice A len c)) (T : Tail C.P t t2 ty el i xv n ds h) (h0 : n ≠ 0) (hds : denL σ new = some ds) :
    RunsV C.P (Builtin.append_ #[t, t2] ty #[.slice A len c, xv]) h (Out ng st σ h k r) := by
  have hd1 := T.one
  unfold Cx.appendN at e
  split at e
  · rename_i hc
    obtain ⟨hc1, hc2⟩ := hc
    obtain ⟨b1, b2⟩ := hC.roomB hi hc2
    obtain ⟨zz, hzz, hzs⟩ := zcells hC hzv hi hc1
    have hm : len + n ≤ maxLen := by simp only [maxLen]; omega
    have hby : (len + n) * i.bytes ≤ 140737488355328 := by omega
    have eds := denL_length _ _ hds
    split at e
    · -- nil
      simp only [lenS, Option.some.injEq] at hlen
      subst hlen
      simp only [den, Option.some.injEq, Value.slice.injEq] at hs
      obtain ⟨rfl, _, rfl⟩ := hs
      rw [forceVs_eq] at e
      have ha := tail_own hzz hzs (OwnS.nil h el i.size) T h0 hm hby
      intro w hw
      obtain ⟨v', w', hr, hse, hown, hchg, hob⟩ := ha w hw
      refine ⟨v', w', hr, hse, ?_⟩
      simp only [Nat.zero_add, List.nil_append] at hown
      have hxx : ExtH w.heap w'.heap := by rw [hw]; exact (hchg.mono (T := fun _ => False) fun b _ hb => (ob_nil hb).elim).ext fun _ h => h.elim
      exact own_new H hds hd1 hown h0 (hw ▸ hxx) (fun b hb => by
        rcases hob b hb with hx | hx
        · exact (ob_nil hx).elim
        · exact hx) e
    · -- a slice whose room is known
      rename_i id off len' cap'
      simp only [lenS, Option.some.injEq] at hlen
      subst hlen
      obtain ⟨q, hq, hqc, hv⟩ := den_sl hs
      simp only [Value.slice.injEq] at hv
      obtain ⟨rfl, _, rfl⟩ := hv
      have eds2 : new.length = n * i.size := by rw [← eds]; exact T.len
      split at e
      · rename_i hroom
        split at e
        · rename_i hoff
          subst hoff
          simp only [Option.bind_eq_some_iff] at e
          obtain ⟨⟨l, t', g⟩, hr, e⟩ := e
          split at e
          · rename_i hc3
            obtain ⟨hc3, hc4⟩ := hc3
            simp only at hc3 hc4
            subst hc4
            rw [forceVs_eq] at e
            have hfit : len' * i.size + new.length ≤ l.length := by rw [eds2, ← Nat.add_mul]; exact hc3
            obtain ⟨q2, cur, hq2, hb, hle, hwr⟩ := row_turn H hr hds hd1 hfit (β := β)
            rw [hq] at hq2; cases hq2
            intro w hw
            subst hw
            have hrun := T.room w rfl q.1 len' c cur.toArray hb hroom (by simpa using hle)
            have hws := heap_setRow w q.1 ((cur.toArray.toList.take (len' * i.size) ++ ds ++ cur.toArray.toList.drop (len' * i.size + ds.length)).toArray) cur.toArray t' hb
            rw [eds2.symm] at e
            have hsp : splice cur (len' * i.size) ds = ((cur.toArray.toList.take (len' * i.size) ++ ds ++ cur.toArray.toList.drop (len' * i.size + ds.length)).toArray).toList := by simp [splice]
            obtain ⟨st', e', hG⟩ := hwr _ (by rw [hsp]; exact hws) e
            refine ⟨_, _, hrun, ⟨rfl, rfl, rfl⟩, _, st', σ, e', ?_, hG⟩
            simp only [den]
            rw [if_pos ⟨hroom, hqc.2⟩, hq]
            rfl
          · cases e
        · cases e
      · rename_i hroom
        simp only [Option.bind_eq_some_iff] at e
        obtain ⟨⟨l, t', g⟩, hr, e⟩ := e
        split at e
        · rename_i hc3
          simp only at hc3
          rw [forceVs_eq] at e
          obtain ⟨q2, vs, tl, hq2, hl, hv1, hb, _⟩ := row_rd (H.obs (Pre.refl _)) hr
          rw [hq] at hq2; cases hq2
          have elv := denL_length _ _ hl
          have eold : ((vs.drop off).take (len' * i.size)).length = len' * i.size := by simp only [List.length_take, List.length_drop]; omega
          have hrdN : Vm.rdN h q.1 off ((vs.drop off).take (len' * i.size)) := hb.rdN off _ (by
            rw [eold, List.drop_append_of_le_length (by omega), List.take_append_of_le_length (by simp only [List.length_drop]; omega)])
          intro w hw
          subst hw
          have hrun := T.grow zz w rfl hzz ⟨q.1, off, none⟩ len' c _ eold (fun j u hu => by rw [cell_eq_rd, add_none]; exact hrdN j u hu) (by omega) hm hby
          have hlen2 : ((vs.drop off).take (len' * i.size) ++ ds).length = (len' + n) * i.size := by rw [List.length_append, eold, T.len, Nat.add_mul]
          have hown := owns_grown (e := el) (w := w) hzs rfl hlen2 (grownCap_ge w (len' + n) c el) (grownCap_le_maxLen w (len' + n) c el hm)
          refine ⟨_, _, hrun, ⟨rfl, rfl, rfl⟩, ?_⟩
          refine own_new H (denL_append _ _ _ _ (take_drop_den hl _ _) hds) (fun u hu => ?_) (by simpa using hown) (by omega) (alloc_ext w _) (fun b hb => by rw [ob_slice] at hb; omega) e
          simp only [List.mem_append] at hu
          rcases hu with hu | hu
          · exact hv1 u (List.mem_of_mem_drop (List.mem_of_mem_take hu))
          · exact hd1 u hu
        · cases e
    · -- one that has grown
      rename_i id off eo len'
      simp only [lenS, Option.some.injEq] at hlen
      subst hlen
      obtain ⟨q, hq, hqc, hv⟩ := den_sg hs
      split at e
      · rename_i h00
        obtain ⟨rfl, rfl⟩ := h00
        simp only [Nat.zero_add, Nat.sub_zero, Value.slice.injEq] at hv hqc
        obtain ⟨rfl, _, rfl⟩ := hv
        simp only [Option.bind_eq_some_iff] at e
        obtain ⟨⟨l, t', g⟩, hr, e⟩ := e
        split at e
        · rename_i hc3
          obtain ⟨hc3, hc4, hc5⟩ := hc3
          simp only at hc3 hc4 hc5
          subst hc4 hc5
          rw [forceVs_eq] at e
          obtain ⟨q2, vs, tl, hq2, hl, hv1, hb, hgr, hget⟩ := row_wr (H.obs (Pre.refl _)) hr
          rw [hq] at hq2; cases hq2
          have elv := denL_length _ _ hl
          have eold : (vs.take (len' * i.size)).length = len' * i.size := by simp only [List.length_take]; omega
          have hownv : OwnS h t' i.size (.slice (some ⟨q.1, 0, none⟩) len' q.2) len' (vs.take (len' * i.size)) := by
            refine ⟨eold, .inr ⟨q.1, q.2, vs.drop (len' * i.size) ++ tl, rfl, ?_, hqc.1, hqc.2, ?_⟩⟩
            · rw [← List.append_assoc, List.take_append_drop]; exact hb
            · rw [← List.append_assoc, List.take_append_drop]; exact hgr.1
          have ha := tail_own hzz hzs hownv T h0 hm hby
          intro w hw
          obtain ⟨v', w', hrun, hse, hown, hchg, hob⟩ := ha w hw
          refine ⟨v', w', hrun, hse, ?_⟩
          rcases hown.2 with ⟨_, h00⟩ | ⟨g, cap, tl', rfl, hb', hnc, hcm, hcl⟩
          · omega
          · have hg : g = q.1 ∨ h.size ≤ g := by
              rcases hob g (ob_slice.2 rfl) with hx | hx
              · exact .inl (ob_slice.1 hx)
              · exact .inr hx
            unfold writeS newS at e
            obtain ⟨hp, ek, hpg⟩ := setK_some _ _ _ _ _ _ e
            rw [forceN_eq] at ek
            obtain ⟨hp2, ek, hpg2⟩ := setK_some _ _ _ _ _ _ ek
            rw [forceN_eq] at ek
            have hpre := upd_pre (g, cap) (H.none_n (Nat.le_refl st.n))
            have hidn : id ≠ st.n := fun e => by have := (H.dom id q hq).1; omega
            have hall : denL σ (l.take (len' * i.size) ++ new) = some (vs.take (len' * i.size) ++ ds) := denL_append _ _ _ _ (denL_take _ _ _ hl) hds
            refine ⟨_, _, upd σ st.n (g, cap), ek, ?_, ?_⟩
            · simp only [den, upd_same, Option.bind_some]
              rw [if_pos ⟨by omega, hcm⟩]
              simp
            · refine H.grown (S := fun b => b = q.1) (hchg.mono fun b _ hb => ob_slice.1 hb) (kill := fun j => j = id) (o := .row (l.take (len' * i.size) ++ new) t' (some i.size) true) (ob := .cells ((vs.take (len' * i.size) ++ ds) ++ tl').toArray t' (0, 0))
                (fun j hj => ⟨_, hj ▸ hget⟩) (fun j o q' ho hl hq' hqq => H.inj j id o _ q' q ho hget hl rfl hq' hq hqq) hg hb' (fun b hb => ⟨id, q, Nat.min_le_right _ _, hq, hb.symm⟩) rfl (Nat.min_le_left _ _) ?_ (fun j hj hjn => ?_) (fun j hj hjn => ?_) ?_
              · simp only [hpg2, if_true]
              · exact (hpg2 j).trans ((if_neg hjn).trans ((hpg j).trans (if_pos hj)))
              · simp only [hpg2, if_neg hjn, hpg, if_neg hj]
              · have := grown_obj (denL_mono hpre _ _ hall) (fun u hu => ?_) hb' hcm hcl (N := 0)
                · rw [show w'.heap[g]? = some (.cells ((vs.take (len' * i.size) ++ ds) ++ tl').toArray t' (0, 0)) from hb'] at this
                  exact this
                · simp only [List.mem_append] at hu
                  rcases hu with hu | hu
                  · exact hv1 u (List.mem_of_mem_take hu)
                  · exact hd1 u hu
        · cases e
      · cases e
    · cases e
  · cases e
theorem append_zero_s {P : Program} {t u ty e : TypeId} {i : TypeInfo} (ht : P.underlying t = some (.slice e)) (hu : P.underlying u = some .string) (hi : P.info? e = some i) (A : Option Addr) {n c : Nat} (hn : n ≤ c) (w : World) :
    (Builtin.append_ #[t, u] ty #[.slice A n c, .string (bytesOf [])]).run P w = .ok (.slice A n c) w := by
  cases A <;> simp [Builtin.append_, run_underlying ht, run_underlying hu, Vm.run_sizeOf hi, Builtin.lenOf, Builtin.firstCells, hn, storeCells, bytesOf, ByteArray.size]
include hC in
theorem append_ok (H : Rep ng st σ h) {t t2 ty : Nat} {s x : SV} {sv xv : Value} (e : C.appendS st t t2 s x k = some r) (hs : den σ s = some sv) (hx : den σ x = some xv) :
    RunsV C.P (Builtin.append_ #[t, t2] ty #[sv, xv]) h (Out ng st σ h k r) := by
  unfold Cx.appendS at e
  rw [hC.und] at e
  split at e
  · rename_i el ht
    simp only [Option.bind_eq_some_iff] at e
    obtain ⟨z, hz, zv, hzv, len, hlen, ⟨n, new⟩, hq, e⟩ := e
    obtain ⟨i, hi, rfl⟩ := hC.size hz
    obtain ⟨A, c, rfl, ha1, ha2⟩ := lenS_ok hlen hs
    unfold Cx.tailS at hq
    split at hq
    · rename_i l
      rw [hC.und] at hq
      split at hq
      · rename_i hu
        split at hq
        · rename_i hc
          cases hq
          obtain ⟨al, rfl⟩ := den_s hx
          cases hl : l.length with
          | zero =>
            rw [hl] at e
            have : l = [] := List.eq_nil_of_length_eq_zero hl
            subst this
            intro w hw
            subst hw
            exact ⟨_, w, append_zero_s ht hu hi A ha1 w, SameEnv.refl w, s, st, σ, e, hs, Goes.refl H⟩
          | succ m =>
            have T := tail_str (ty := ty) (h := h) ht hu hi hc.2 al (by omega)
            rw [hl] at e T
            exact appendN_ok hC H hi hzv hlen ha1 ha2 e hs T (Nat.succ_ne_zero m) (by
              have : ∀ l : List Nat, denL σ (l.map cellB) = some (l.map vbyte) := by
                intro l
                induction l with
                | nil => rfl
                | cons b l ih => simp only [List.map_cons, denL, ih, den, cellB, Option.bind_some, Option.map_some, vbyte]
              exact this l)
        · cases hq
      · cases hq
    · split at hq
      · rename_i htt
        subst htt
        simp only [Option.bind_eq_some_iff] at hq
        obtain ⟨m, hm, hq⟩ := hq
        obtain ⟨B, c', rfl, hb1, hb2⟩ := lenS_ok hm hx
        split at hq
        · rename_i h0
          cases hq
          subst h0
          intro w hw
          subst hw
          exact ⟨_, w, append_zero ht hi A B ha1 w, SameEnv.refl w, s, st, σ, e, hs, Goes.refl H⟩
        · rename_i h0
          simp only [Option.map_eq_some_iff] at hq
          obtain ⟨new', hnew, hq⟩ := hq
          cases hq
          obtain ⟨ds, hds, hsrc, hd1⟩ := src_of (H.obs (Pre.refl _)) hm hnew hx h0
          have T := tail_slice (ty := ty) ht hi hsrc hd1 h0
          cases n with
          | zero => exact absurd rfl h0
          | succ m => exact appendN_ok hC H hi hzv hlen ha1 ha2 e hs T h0 hds
      · cases hq
  · cases e
end
end Go.Proofs.YtdielfpgekenkaaGreatDoor.Sx
namespace Go.Proofs.YtdielfpgekenkaaGreatDoor.Sx
open Go Vm
set_option linter.unusedSimpArgs false
set_option linter.unusedVariables false
section
variable {C : Cx} (hC : CxOk C) {ng : Nat} {st : St} {σ : Env} {h : Heap} {sf : SF} {fr : Fr} {β : Type} {k : SV → St → Option β} {r : β}
theorem isU8_ok {d : Option TypeDesc} (h : isU8 d = true) : d = some (.int .u8) := by
  unfold isU8 at h
  split at h
  · rfl
  · cases h
theorem cells_den (σ : Env) : ∀ l : List Nat, denL σ (l.map cellB) = some (l.map vbyte)
  | [] => rfl
  | b :: l => by simp only [List.map_cons, denL, cells_den σ l, den, cellB, Option.bind_some, Option.map_some, vbyte]
theorem bytesS_ok {σ : Env} : ∀ (l : List SV) (bs : List Nat) (vs : List Value), bytesS l = some bs → denL σ l = some vs → bs.all (Nat.blt · 256) = true ∧ vs = bs.map vbyte
  | [], bs, vs, h, e => by
    simp only [bytesS, Option.some.injEq] at h; subst h
    simp only [denL, Option.some.injEq] at e; subst e
    exact ⟨rfl, rfl⟩
  | c :: l, bs, vs, h, e => by
    simp only [bytesS, Option.bind_eq_some_iff, Option.map_eq_some_iff] at h
    obtain ⟨b, hb, bs', hbs, rfl⟩ := h
    simp only [denL, Option.bind_eq_some_iff, Option.map_eq_some_iff] at e
    obtain ⟨v, hv, vs', hvs, rfl⟩ := e
    obtain ⟨h1, h2⟩ := bytesS_ok l bs' vs' hbs hvs
    unfold byteOf at hb
    split at hb
    · split at hb
      · rename_i hlt
        cases hb
        have := den_i hv
        subst this
        refine ⟨?_, ?_⟩
        · simp only [List.all_cons, h1, Bool.and_true]; exact hlt
        · simp only [List.map_cons, h2]; rfl
      · cases hb
    · cases hb
theorem bytes_env (w : World) (e : TypeId) (s : ByteArray) : SameEnv w (Lib.bytesWorld w e s) := by
  unfold Lib.bytesWorld World.freeze
  split <;> exact ⟨rfl, rfl, rfl⟩
/-- a literal's row gets the run-time's mark -/
theorem conv_mark {P : Program} {t e : TypeId} (ht : P.underlying t = some (.slice e)) (he : P.underlying e = some (.int .u8)) {h : Heap} {b o n c : Nat} {l : List Value} {e' : TypeId} (hb : Blk h b l e') :
    RunsV P (convert t t (.slice (some ⟨b, o, none⟩) n c)) h fun v h' => v = .slice (some ⟨b, o, none⟩) n c ∧ Turns h h' b (.cells l.toArray e' (l.length, l.length + 1)) := by
  intro w hw
  subst hw
  have hsh : w.shape? b = some (e', l.length) := by
    unfold World.shape?
    rw [show w.heap[b]? = some (.cells l.toArray e' (0, 0)) from hb]
    simp
  have hnew : (w.freeze ⟨b, l.length, none⟩ 1).heap[b]? = some (.cells l.toArray e' (l.length, l.length + 1)) := by
    unfold World.freeze
    rw [if_neg (by decide)]
    simp only [Array.getElem?_modify]
    rw [show w.heap[b]? = some (.cells l.toArray e' (0, 0)) from hb]
    rfl
  refine ⟨.slice (some ⟨b, o, none⟩) n c, w.freeze ⟨b, l.length, none⟩ 1, ?_, ⟨?_, ?_, ?_⟩, rfl, ⟨?_, hnew, ?_⟩⟩
  · simp [convert, run_underlying ht, run_underlying he, markStringish, hsh]
  · simp [World.freeze]
  · simp [World.freeze]
  · simp [World.freeze]
  · simp [World.freeze]
  · intro k hk
    unfold World.freeze
    rw [if_neg (by decide)]
    simp only [Array.getElem?_modify]
    rw [if_neg (fun e => hk e.symm)]
include hC in
theorem conv_ok (H : Rep ng st σ h) {s t : Nat} {x : SV} {v : Value} (e : C.convS st s t x k = some r) (hx : den σ x = some v) : RunsV C.P (convert s t v) h (Out ng st σ h k r) := by
  unfold Cx.convS at e
  simp only [hC.und] at e
  split at e
  · rename_i el hs ht
    split at e
    · rename_i l
      split at e
      · rename_i hc
        simp only [Bool.and_eq_true, Nat.blt_eq] at hc
        have he := isU8_ok hc.1
        obtain ⟨al, rfl⟩ := den_s hx
        intro w hw
        subst hw
        refine ⟨_, _, Lib.run_convert_string_bytes w s t el (bytesOf l) hs ht he, bytes_env w el (bytesOf l), ?_⟩
        have hN : Newed w.heap (Lib.bytesWorld w el (bytesOf l)).heap (.cells (Lib.bytesCells w el (bytesOf l)) el ((Lib.bytesCells w el (bytesOf l)).size, (Lib.bytesCells w el (bytesOf l)).size + 1)) :=
          ⟨Lib.bytesWorld_size _ _ _, Lib.bytesWorld_at_new _ _ _, fun b hb => Lib.bytesWorld_at_old _ _ _ b hb⟩
        have hge := grownCap_ge w (bytesOf l).size 0 el
        have hle := grownCap_le_maxLen w (bytesOf l).size 0 el (by rw [bytesOf_size]; simp only [maxLen]; omega)
        rw [bytesOf_size] at hge hle ⊢
        have hbc : Lib.bytesCells w el (bytesOf l) = ((l.map vbyte) ++ List.replicate (grownCap w l.length 0 el - l.length) (Value.int .u8 0)).toArray := by
          unfold Lib.bytesCells
          apply Array.ext'
          rw [bytesOf_size]
          simp only [Array.toList_append, Array.toList_map, Array.toList_replicate, List.toList_toArray, bytesOf, List.map_map]
          congr 1
          apply List.map_congr_left
          intro b hb
          have hlt : b < 256 := by simpa using List.all_eq_true.1 al b hb
          simp only [Function.comp, UInt8.toNat_ofNat_of_lt' hlt, vbyte]
          rfl
        have hob : ∀ σ', Pre σ σ' → objR σ' (w.heap.size, grownCap w l.length 0 el) (some (.cells (Lib.bytesCells w el (bytesOf l)) el ((Lib.bytesCells w el (bytesOf l)).size, (Lib.bytesCells w el (bytesOf l)).size + 1))) (.row (l.map cellB) el (some 1) false) := fun σ' _ =>
          ⟨_, _, _, cells_den σ' l, fun v hv => by obtain ⟨b, _, rfl⟩ := List.mem_map.1 hv; rfl, by rw [hbc], ⟨by simp only [List.length_append, List.length_map, List.length_replicate]; omega, hle⟩, fun h => by cases h⟩
        obtain ⟨st', e', hG⟩ := newS_ok H (cap := grownCap w l.length 0 el) hN hob e
        refine ⟨_, st', _, e', ?_, hG⟩
        simp only [den, upd_same, Option.bind_some]
        rw [if_pos ⟨by omega, hle⟩]
        rfl
      · cases e
    · cases e
  · rename_i el hs ht
    split at e
    · rename_i hc
      have he := isU8_ok hc
      simp only [Option.bind_eq_some_iff] at e
      obtain ⟨n, hn, l, hl, bs, hbs, e⟩ := e
      obtain ⟨A, c, rfl, h1, h2⟩ := lenS_ok hn hx
      by_cases h0 : n = 0
      · subst h0
        have hl0 : l = [] := by
          unfold lenS at hn
          split at hn
          · simp only [Cx.elemsS, Option.some.injEq] at hl; exact hl.symm
          · cases hn
            simp only [Cx.elemsS, Option.bind_eq_some_iff] at hl
            obtain ⟨_, _, hl⟩ := hl
            split at hl
            · simpa using hl.symm
            · cases hl
          · cases hn
            simp only [Cx.elemsS, Option.bind_eq_some_iff] at hl
            obtain ⟨_, _, hl⟩ := hl
            split at hl
            · simpa using hl.symm
            · cases hl
          · simp only [Cx.elemsS, Option.some.injEq] at hl; exact hl.symm
          · cases hn
        subst hl0
        simp only [bytesS, Option.some.injEq] at hbs
        subst hbs
        intro w hw
        subst hw
        cases A with
        | none => exact ⟨_, w, run_convert_bytes_nil w s el hs he 0 c t ht, SameEnv.refl w, _, st, σ, e, by rfl, Goes.refl H⟩
        | some a => exact ⟨_, w, run_convert_bytes_back w s t el a c [] hs he ht (fun j hj => by simp at hj), SameEnv.refl w, _, st, σ, e, by rfl, Goes.refl H⟩
      · obtain ⟨ds, hds, hsrc, _⟩ := src_of (H.obs (Pre.refl _)) hn hl hx h0
        obtain ⟨hb1, rfl⟩ := bytesS_ok l bs ds hbs hds
        have hlen : bs.length = n := by have := hsrc.1; simpa using this
        rcases hsrc.2 with ⟨_, h00⟩ | ⟨X, cx, hv, _, _, hr⟩
        · exact absurd h00 h0
        · simp only [Value.slice.injEq] at hv
          obtain ⟨rfl, _, rfl⟩ := hv
          intro w hw
          subst hw
          have hrun := run_convert_bytes_back (P := C.P) w s t el X c (bs.map UInt8.ofNat) hs he ht (fun j hj => by
            rw [cell_eq_rd]
            simp only [List.length_map] at hj
            have hlt : bs[j] < 256 := by simpa using List.all_eq_true.1 hb1 _ (List.getElem_mem hj)
            have := hr j (.int .u8 (bs[j] : Int)) (by simp [hj, vbyte])
            simpa [UInt8.toNat_ofNat_of_lt' hlt] using this)
          simp only [List.length_map, hlen] at hrun
          exact ⟨_, w, hrun, SameEnv.refl w, _, st, σ, e, den_str hb1, Goes.refl H⟩
    · cases e
  · rename_i el el2 hs ht
    split at e
    · rename_i hc
      obtain ⟨rfl, hu⟩ := hc
      have he := isU8_ok hu
      split at e
      · rename_i id off n c
        simp only [Option.bind_eq_some_iff] at e
        obtain ⟨⟨l, t', g⟩, hr, e⟩ := e
        split at e
        · rename_i hg
          simp only [Option.isNone_iff_eq_none] at hg
          subst hg
          obtain ⟨q, vs, tl, hq, hl, h1, hb, hgr, ho⟩ := row_wr (H.obs (Pre.refl _)) hr
          have htl : tl = [] := hgr
          subst htl
          rw [List.append_nil] at hb
          obtain ⟨q', hq', hcn, hv⟩ := den_sl hx
          rw [hq] at hq'; cases hq'
          subst hv
          intro w hw
          obtain ⟨v, w', hrun, hs', rfl, hT⟩ := conv_mark hs he hb w hw
          obtain ⟨st', e', hG, _, _, _⟩ := writeS_ok (o := .row l t' none false) H ho rfl hq hT ⟨vs, [], _, hl, h1, by rw [List.append_nil], rfl, fun h => by cases h⟩ e
          exact ⟨_, w', hrun, hs', _, st', σ, e', hx, hG⟩
        · cases e
      · cases e
    · cases e
  · cases e

include hC in
theorem copy_ok (H : Rep ng st σ h) {t t2 ty : Nat} {d x : SV} {dv xv : Value} (e : C.copyS st t d x k = some r) (hd : den σ d = some dv) (hx : den σ x = some xv) :
    RunsV C.P (Builtin.copy_ #[t, t2] ty #[dv, xv]) h (Out ng st σ h k r) := by
  unfold Cx.copyS at e
  rw [hC.und] at e
  split at e
  · rename_i el ht
    simp only [Option.bind_eq_some_iff] at e
    obtain ⟨z, hz, dn, hdn, xn, hxn, e⟩ := e
    obtain ⟨i, hi, rfl⟩ := hC.size hz
    obtain ⟨D, dc, rfl, hd1, hd2⟩ := lenS_ok hdn hd
    obtain ⟨X, xc, rfl, hx1, hx2⟩ := lenS_ok hxn hx
    split at e
    · rename_i h1
      have hs1 : (C.P.info? el).map (·.size) = some 1 := by rw [hi]; exact congrArg some h1
      split at e
      · rename_i h0
        intro w hw
        subst hw
        exact ⟨_, w, run_copy_none (P := C.P) w t t2 ty el D X dn dc xn xc ht hs1 h0, SameEnv.refl w, _, st, σ, e, rfl, Goes.refl H⟩
      · rename_i h0
        simp only [Option.bind_eq_some_iff] at e
        obtain ⟨new, hnew, e⟩ := e
        have hxn0 : xn ≠ 0 := fun h => h0 (by rw [h]; exact Nat.zero_min _)
        obtain ⟨ds, hds, hsrc, hd3⟩ := src_of (H.obs (Pre.refl _)) hxn hnew hx hxn0
        have e2 := denL_length _ _ hds
        have elen : ds.length = xn := by have := hsrc.1; simpa using this
        rcases hsrc.2 with ⟨_, h00⟩ | ⟨XA, cx, hv, _, _, hr⟩
        · exact absurd h00 hxn0
        · simp only [Value.slice.injEq] at hv
          obtain ⟨rfl, _, rfl⟩ := hv
          have fin : ∀ (id off : Nat) (q : Nat × Nat) (l : List SV) (t' : Nat) (g : Option Nat), σ id = some q → D = some ⟨q.1, off, none⟩ → rowW st id = some (l, t', g) → off + min xn dn ≤ l.length →
              writeS st id (.row (l.take off ++ new.take (min xn dn) ++ l.drop (off + min xn dn)) t' g true) (fun st => k (.i .i64 (Int.ofNat (min xn dn))) st) = some r →
              RunsV C.P (Builtin.copy_ #[t, t2] ty #[.slice D dn dc, .slice (some XA) xn xc]) h (Out ng st σ h k r) := by
            intro id off q l t' g hq hD hr' hfit e
            subst hD
            have hcs : (ds.take (min xn dn)).length = min xn dn := by simp only [List.length_take, elen]; omega
            have hcsS : (new.take (min xn dn)).length = min xn dn := by simp only [List.length_take]; omega
            obtain ⟨q2, cur, hq2, hb, hle, hwr⟩ := row_turn H hr' (denL_take (min xn dn) _ _ hds) (fun v hv => hd3 v (List.mem_of_mem_take hv)) (by rw [hcsS]; exact hfit) (β := β)
            rw [hq] at hq2; cases hq2
            intro w hw
            subst hw
            have hrun := run_copy_row (P := C.P) w t t2 ty el q.1 off dn dc XA xn xc cur.toArray t' (ds.take (min xn dn)) ht hs1 hb hcs (fun j u hu => by
              rw [cell_eq_rd]
              refine hr j u ?_
              rw [List.getElem?_take] at hu
              split at hu
              · exact hu
              · cases hu) (by simpa using hle) (fun v hv => hd3 v (List.mem_of_mem_take hv))
            have hws := heap_setRow w q.1 ((cur.toArray.toList.take off ++ ds.take (min xn dn) ++ cur.toArray.toList.drop (off + (ds.take (min xn dn)).length)).toArray) cur.toArray t' hb
            have hsp : splice cur off (ds.take (min xn dn)) = ((cur.toArray.toList.take off ++ ds.take (min xn dn) ++ cur.toArray.toList.drop (off + (ds.take (min xn dn)).length)).toArray).toList := by simp [splice]
            rw [← hcsS] at e
            have e' : writeS st id (.row (l.take off ++ new.take (min xn dn) ++ l.drop (off + (new.take (min xn dn)).length)) t' g true) (fun st => k (.i .i64 (Int.ofNat (min xn dn))) st) = some r := by
              rw [hcsS] at e ⊢
              exact e
            obtain ⟨st', e', hG⟩ := hwr _ (by rw [hsp]; exact hws) e'
            refine ⟨_, _, hrun, ⟨rfl, rfl, rfl⟩, _, st', σ, e', ?_, hG⟩
            rw [hcs]; rfl
          split at e
          · rename_i id off len' cap'
            simp only [Option.bind_eq_some_iff] at e
            obtain ⟨⟨l, t', g⟩, hr', e⟩ := e
            split at e
            · rename_i hfit
              rw [forceVs_eq] at e
              obtain ⟨q, hq, _, hv⟩ := den_sl hd
              simp only [Value.slice.injEq] at hv
              exact fin id off q l t' g hq hv.1 hr' hfit e
            · cases e
          · rename_i id off eo len'
            simp only [Option.bind_eq_some_iff] at e
            obtain ⟨⟨l, t', g⟩, hr', e⟩ := e
            split at e
            · rename_i hfit
              rw [forceVs_eq] at e
              obtain ⟨q, hq, _, hv⟩ := den_sg hd
              simp only [Value.slice.injEq] at hv
              exact fin id off q l t' g hq hv.1 hr' hfit e
            · cases e
          · cases e
    · cases e
  · cases e
theorem repS_one {σ : Env} {z : SV} {v : Value} (hz : den σ z = some v) : ∀ n, denL σ (repS n [z]) = some (List.replicate n v)
  | 0 => rfl
  | n + 1 => by
    have ih := repS_one hz n
    show denL σ ([z] ++ repS n [z]) = _
    simp only [List.singleton_append, denL, hz, ih, Option.bind_some, Option.map_some, List.replicate_succ]
include hC in
theorem clear_ok (H : Rep ng st σ h) {t ty : Nat} {d : SV} {dv : Value} (e : C.clearS st t d k = some r) (hd : den σ d = some dv) :
    RunsV C.P (Builtin.clear_ #[t] ty #[dv]) h (Out ng st σ h k r) := by
  unfold Cx.clearS at e
  rw [hC.und] at e
  split at e
  · rename_i el ht
    simp only [Option.bind_eq_some_iff] at e
    obtain ⟨zv, hz, n, hn, e⟩ := e
    obtain ⟨i, z, hi, hzv, hden⟩ := zero_ok (σ := σ) hC hz
    obtain ⟨D, dc, rfl, hd1, hd2⟩ := lenS_ok hn hd
    split at e
    · rename_i h0
      subst h0
      intro w hw
      subst hw
      refine ⟨_, w, ?_, SameEnv.refl w, undefS, st, σ, e, rfl, Goes.refl H⟩
      cases D with
      | none => simp [Builtin.clear_, run_underlying ht]
      | some a => simp [Builtin.clear_, run_underlying ht]
    · rename_i h0
      split at e
      · rename_i h1
        have hzo : z.oneCell' = true := oneB_ok h1 hden
        obtain ⟨us, hus, hcv⟩ := den_cells hden
        have hc1 : cellsS zv = [zv] := by cases zv <;> first | rfl | (simp [oneB] at h1)
        rw [hc1] at hus
        simp only [denL, hden, Option.bind_some, Option.map_some, Option.some.injEq] at hus
        subst hus
        have fin : ∀ (id off : Nat) (q : Nat × Nat), σ id = some q → D = some ⟨q.1, off, none⟩ → clearAt st id off n zv k = some r → RunsV C.P (Builtin.clear_ #[t] ty #[.slice D n dc]) h (Out ng st σ h k r) := by
          intro id off q hq hD e
          subst hD
          unfold clearAt at e
          simp only [Option.bind_eq_some_iff] at e
          obtain ⟨⟨l, t', g⟩, hr', e⟩ := e
          split at e
          · rename_i hfit
            rw [forceVs_eq] at e
            obtain ⟨q2, cur, hq2, hb, hle, hwr⟩ := row_turn H hr' (repS_one (σ := σ) hden n) (fun v hv => by rw [List.eq_of_mem_replicate hv]; exact hzo) hfit (β := β)
            rw [hq] at hq2; cases hq2
            intro w hw
            subst hw
            have hst := run_storeCells_at (P := C.P) q.1 off t' (List.replicate n z) 0 cur.toArray w hb (by simpa using hle) (fun v hv => by rw [List.eq_of_mem_replicate hv]; exact hzo)
            have hzc : (Builtin.zeroCells z.cells n).toList = List.replicate n z := by
              rw [hcv]
              simp [Builtin.zeroCells]
              apply List.ext_getElem
              · simp
              · intro i h1 h2
                simp [Nat.mod_one]
            have hrun : (Builtin.clear_ #[t] ty #[.slice (some ⟨q.1, off, none⟩) n dc]).run C.P w = .ok (.tuple #[]) (w.setRow q.1 (cur.toArray.toList.take (off + 0) ++ List.replicate n z ++ cur.toArray.toList.drop (off + 0 + (List.replicate n z).length)).toArray) := by
              obtain ⟨m, rfl⟩ : ∃ m, n = m + 1 := ⟨n - 1, by omega⟩
              simp only [Builtin.clear_]
              simp [run_underlying ht, run_zero hi hzv, hzc]
              simp at hst
              rw [hst]
              rfl
            have hws := heap_setRow w q.1 ((cur.toArray.toList.take (off + 0) ++ List.replicate n z ++ cur.toArray.toList.drop (off + 0 + (List.replicate n z).length)).toArray) cur.toArray t' hb
            have hsp : splice cur off (List.replicate n z) = ((cur.toArray.toList.take (off + 0) ++ List.replicate n z ++ cur.toArray.toList.drop (off + 0 + (List.replicate n z).length)).toArray).toList := by simp [splice]
            obtain ⟨st', e', hG⟩ := hwr _ (by rw [hsp]; exact hws) e
            exact ⟨_, _, hrun, ⟨rfl, rfl, rfl⟩, _, st', σ, e', rfl, hG⟩
          · cases e
        split at e
        · obtain ⟨q, hq, _, hv⟩ := den_sl hd
          simp only [Value.slice.injEq] at hv
          exact fin _ _ q hq hv.1 e
        · obtain ⟨q, hq, _, hv⟩ := den_sg hd
          simp only [Value.slice.injEq] at hv
          exact fin _ _ q hq hv.1 e
        · cases e
      · cases e
  · cases e
end
end Go.Proofs.YtdielfpgekenkaaGreatDoor.Sx
