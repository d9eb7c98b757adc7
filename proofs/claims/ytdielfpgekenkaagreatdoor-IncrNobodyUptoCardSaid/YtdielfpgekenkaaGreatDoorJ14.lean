/-
  A region that draws its order.
  Code.
-/
import Derived.Test.YtdielfpgekenkaaGreatDoorJ13
namespace Go.Proofs.YtdielfpgekenkaaGreatDoor.Sx
open Go Vm
set_option linter.unusedSimpArgs false
set_option linter.unusedVariables false
section
variable {C : Cx} (hC : CxOk C) {b st : St} {σ0 σ : Env} {h0 h : Heap} {n1 : Nat} {wd : Bool} {sf : SF} {fr : Fr} {β : Type} {r : β} {W : List (Nat × Nat)}
theorem killS_ok : ∀ (l : List Nat) (st : St) (k : St → Option β), killS l st k = some r → ∃ st', k st' = some r ∧ st'.n = st.n ∧ st'.low = st.low ∧
    (∀ j, j ∉ l → st'.hp.get j = st.hp.get j) ∧ ∀ j, j ∈ l → st'.hp.get j = some .dead ∧ ∃ o, st.hp.get j = some o ∧ o.live = true
  | [], st, k, e => ⟨st, e, rfl, rfl, fun _ _ => rfl, fun _ h => by cases h⟩
  | w :: l, st, k, e => by
    unfold killS at e
    split at e
    · rename_i l' t g wr hw
      obtain ⟨hp, e, hg⟩ := setK_some _ _ _ _ _ _ e
      obtain ⟨st', h1, h2, h3, h4, h5⟩ := killS_ok l _ k e
      simp only at h2 h3 h4 h5
      refine ⟨st', h1, h2, h3, fun j hj => ?_, fun j hj => ?_⟩
      · simp only [List.mem_cons, not_or] at hj
        rw [h4 j hj.2, hg, if_neg hj.1]
      · simp only [List.mem_cons] at hj
        by_cases hjl : j ∈ l
        · obtain ⟨g1, o, g2, g3⟩ := h5 j hjl
          rw [hg] at g2
          split at g2
          · cases g2; cases g3
          · exact ⟨g1, o, g2, g3⟩
        · rcases hj with rfl | hj
          · exact ⟨by rw [h4 j hjl, hg, if_pos rfl], _, hw, rfl⟩
          · exact absurd hj hjl
    · cases e
/-- what a quiet operation may look at -/
def Looks (W : List (Nat × Nat)) (p : Nat × Nat → Bool) (σ0 : Env) (h0 : Heap) (c : Nat) : Prop := c < h0.size ∧ (∀ q ∈ W, p q = true → q.2 ≠ 0 → ∀ x, σ0 q.2 = some x → x.1 ≠ c) ∧
  ((∃ q ∈ W, p q = true ∧ q.2 = 0) → ∃ q ∈ W, q.1 = KPm ∧ ∃ x, σ0 q.2 = some x ∧ x.1 = c)
theorem deadT_get : ∀ (t : Tr SO) (i : Nat), (deadT t).get i = (t.get i).map fun _ => .dead
  | .nil, i => rfl
  | .node l v r, i => by
    cases i with
    | zero => rfl
    | succ n =>
      simp only [deadT, get_succ]
      split
      · exact deadT_get l _
      · exact deadT_get r _
theorem putBack_ok {h0 : Tr SO} : ∀ (l : List Nat) (t : Tr SO) (k : Tr SO → Option β), putBack h0 l t k = some r → ∃ t', k t' = some r ∧ ∀ j, (t'.get j = t.get j) ∨ (j ∈ l ∧ ∃ o, h0.get j = some o ∧ t'.get j = some o)
  | [], t, k, e => ⟨t, e, fun j => .inl rfl⟩
  | id :: l, t, k, e => by
    unfold putBack at e
    split at e
    · rename_i o ho
      obtain ⟨t1, e, hg⟩ := setK_some _ _ _ _ _ _ e
      obtain ⟨t', e, h⟩ := putBack_ok l t1 k e
      refine ⟨t', e, fun j => ?_⟩
      rcases h j with h | ⟨h1, o', h2, h3⟩
      · rw [hg] at h
        by_cases hj : j = id
        · rw [if_pos hj] at h
          exact .inr ⟨by rw [hj]; exact List.mem_cons_self, o, by rw [hj]; exact ho, h⟩
        · rw [if_neg hj] at h
          exact .inl h
      · exact .inr ⟨List.mem_cons_of_mem _ h1, o', h2, h3⟩
    · obtain ⟨t', e, h⟩ := putBack_ok l t k e
      refine ⟨t', e, fun j => ?_⟩
      rcases h j with h | ⟨h1, o', h2, h3⟩
      · exact .inl h
      · exact .inr ⟨List.mem_cons_of_mem _ h1, o', h2, h3⟩
theorem rep_dead (H : Rep C.ng b σ0 h0) {S : Nat → Prop} {kl : List Nat} (hS : ∀ id ∈ kl, ∀ x, σ0 id = some x → x.1 < h0.size → S x.1) {t : Tr SO} (ht : ∀ j, (t.get j = (deadT b.hp).get j) ∨ (j ∈ kl ∧ ∃ o, b.hp.get j = some o ∧ t.get j = some o))
    {h1 : Heap} (e : ExtP S h0 h1) : Rep C.ng { b with hp := t } σ0 h1 where
  glob := H.glob
  has := fun i q hq hi => by
    obtain ⟨o, ho⟩ := H.has i q hq hi
    rcases ht i with h | ⟨_, o', _, h⟩
    · exact ⟨.dead, by simp only [h, deadT_get, ho, Option.map_some]⟩
    · exact ⟨o', h⟩
  ngn := H.ngn
  dom := fun i q hq => ⟨(H.dom i q hq).1, Nat.lt_of_lt_of_le (H.dom i q hq).2 e.size⟩
  obj := fun i o ho => by
    simp only at ho
    rcases ht i with h | ⟨hm, o', h2, h3⟩
    · rw [h] at ho
      simp only [deadT_get, Option.map_eq_some_iff] at ho
      obtain ⟨o', ho', rfl⟩ := ho
      obtain ⟨q, hq, _⟩ := H.obj i o' ho'
      exact ⟨q, hq, trivial⟩
    · rw [h3] at ho
      cases ho
      obtain ⟨q, hq, hr⟩ := H.obj i _ h2
      have hlt := (H.dom i q hq).2
      exact ⟨q, hq, by rw [e.block q.1 (hS i hm q hq hlt) hlt]; exact hr⟩
  inj := fun i j o o' q r hi hj l1 l2 hq hr hqr => by
    have old : ∀ i o, t.get i = some o → o.live = true → b.hp.get i = some o := fun i o hi l1 => by
      rcases ht i with h | ⟨_, o', h2, h3⟩
      · rw [h] at hi
        simp only [deadT_get, Option.map_eq_some_iff] at hi
        obtain ⟨_, _, rfl⟩ := hi
        cases l1
      · rw [h3] at hi; cases hi; exact h2
    exact H.inj i j o o' q r (old i o hi l1) (old j o' hj l2) l1 l2 hq hr hqr
theorem rep_killed {p : Nat × Nat → Bool} (H : Rep C.ng b σ0 h0) {stW : St} (hn : stW.n = b.n) (h4 : ∀ j, j ∉ (W.filter p).map (·.2) → stW.hp.get j = b.hp.get j) (h5 : ∀ j, j ∈ (W.filter p).map (·.2) → stW.hp.get j = some .dead ∧ ∃ o, b.hp.get j = some o ∧ o.live = true)
    (hz : 0 ∉ (W.filter p).map (·.2)) {h1 : Heap} (e : ExtP (Looks W p σ0 h0) h0 h1) : Rep C.ng stW σ0 h1 := by
  have back : ∀ j o, stW.hp.get j = some o → o.live = true → j ∉ (W.filter p).map (·.2) ∧ b.hp.get j = some o := fun j o ho hl => by
    by_cases hj : j ∈ (W.filter p).map (·.2)
    · rw [(h5 j hj).1] at ho; cases ho; cases hl
    · exact ⟨hj, by rw [← h4 j hj]; exact ho⟩
  refine ⟨H.glob, fun j q hq hj => ?_, by rw [hn]; exact H.ngn, fun j q hq => ⟨by rw [hn]; exact (H.dom j q hq).1, Nat.lt_of_lt_of_le (H.dom j q hq).2 e.size⟩, fun j o ho => ?_, fun i j o o' q r' hi hj l1 l2 q1 q2 hqr => ?_⟩
  · by_cases hjl : j ∈ (W.filter p).map (·.2)
    · exact ⟨_, (h5 j hjl).1⟩
    · rw [h4 j hjl]; exact H.has j q hq hj
  · by_cases hl : o.live = true
    · obtain ⟨g1, g2⟩ := back j o ho hl
      obtain ⟨q, hq, hr⟩ := H.obj j o g2
      refine ⟨q, hq, ?_⟩
      rw [e.block q.1 ⟨(H.dom j q hq).2, (fun w hw hp _ x hx ex => ?_), fun ⟨w, hw, hp, h0⟩ => (hz (h0 ▸ List.mem_map.2 ⟨w, List.mem_filter.2 ⟨hw, hp⟩, rfl⟩)).elim⟩ (H.dom j q hq).2]
      · exact hr
      · have hwm : w.2 ∈ (W.filter p).map (·.2) := List.mem_map.2 ⟨w, List.mem_filter.2 ⟨hw, hp⟩, rfl⟩
        obtain ⟨_, o2, g3, g4⟩ := h5 w.2 hwm
        have := H.inj j w.2 o o2 q x g2 g3 hl g4 hq hx ex.symm
        exact g1 (this ▸ hwm)
    · have hd : o = .dead := by cases o <;> first | rfl | exact absurd rfl hl
      subst hd
      by_cases hjl : j ∈ (W.filter p).map (·.2)
      · obtain ⟨_, o2, g3, _⟩ := h5 j hjl
        obtain ⟨q, hq, _⟩ := H.obj j o2 g3
        exact ⟨q, hq, trivial⟩
      · rw [h4 j hjl] at ho
        obtain ⟨q, hq, _⟩ := H.obj j _ ho
        exact ⟨q, hq, trivial⟩
  · exact H.inj i j o o' q r' (back i o hi l1).2 (back j o' hj l2).2 l1 l2 q1 q2 hqr
theorem killA_ok {p : Nat × Nat → Bool} (H : Rep C.ng b σ0 h0) {k : St → Option β} (e : killA W ((W.filter p).map (·.2)) b k = some r) : ∃ stW, k stW = some r ∧ ∀ h1, ExtP (Looks W p σ0 h0) h0 h1 → Rep C.ng stW σ0 h1 := by
  unfold killA at e
  split at e
  · split at e
    · rename_i hall
      obtain ⟨t, e, ht⟩ := putBack_ok _ _ _ e
      refine ⟨_, e, fun h1 hx => rep_dead H (kl := keptL W) (fun id hid x hx hlt => ⟨hlt, fun q hq hp h0 => ?_, fun _ => ?_⟩) ht hx⟩
      · have := List.all_eq_true.1 hall q.2 (List.mem_map.2 ⟨q, List.mem_filter.2 ⟨hq, hp⟩, rfl⟩)
        exact absurd (Nat.eq_of_beq_eq_true this).symm h0
      · unfold keptL at hid
        obtain ⟨q, hq, rfl⟩ := List.mem_map.1 hid
        obtain ⟨h2, h3⟩ := List.mem_filter.1 hq
        exact ⟨q, h2, Nat.eq_of_beq_eq_true h3, x, hx, rfl⟩
    · cases e
  · rename_i hz
    obtain ⟨stW, e, hkn, hkl, h4, h5⟩ := killS_ok _ _ _ e
    have hz : 0 ∉ (W.filter p).map (·.2) := fun h => by
      rw [List.contains_iff_mem.2 h] at hz
      cases hz
    exact ⟨stW, e, fun h1 hx => rep_killed H hkn h4 h5 hz hx⟩
mutual
theorem den_flat : ∀ (s : SV), flatB s = true → ∃ v, ∀ σ, den σ s = some v
  | .b x, _ => ⟨_, fun _ => rfl⟩
  | .i k n, _ => ⟨_, fun _ => rfl⟩
  | .s l, h => ⟨_, fun _ => den_str h⟩
  | .p _ _, h => by simp [flatB] at h
  | .pn, _ => ⟨_, fun _ => rfl⟩
  | .sl _ _ _ _, h => by simp [flatB] at h
  | .sg _ _ _ _, h => by simp [flatB] at h
  | .se _ _ _ _ _, h => by simp [flatB] at h
  | .sn, _ => ⟨_, fun _ => rfl⟩
  | .m _, h => by simp [flatB] at h
  | .mn, _ => ⟨_, fun _ => rfl⟩
  | .f _ _ _, h => by simp [flatB] at h
  | .nf, _ => ⟨_, fun _ => rfl⟩
  | .ifc t x, h => by
    obtain ⟨v, hv⟩ := den_flat x h
    exact ⟨.iface t v, fun σ => by simp only [den, hv σ, Option.map_some]⟩
  | .nifc, _ => ⟨_, fun _ => rfl⟩
  | .agg l, h => by
    obtain ⟨v, hv⟩ := den_flats l h
    exact ⟨.agg v.toArray, fun σ => by simp only [den, hv σ, Option.map_some]⟩
  | .tup l, h => by
    obtain ⟨v, hv⟩ := den_flats l h
    exact ⟨.tuple v.toArray, fun σ => by simp only [den, hv σ, Option.map_some]⟩
theorem den_flats : ∀ (l : List SV), flatBs l = true → ∃ v, ∀ σ, denL σ l = some v
  | [], _ => ⟨_, fun _ => rfl⟩
  | s :: r, h => by
    simp only [flatBs, Bool.and_eq_true] at h
    obtain ⟨v, hv⟩ := den_flat s h.1
    obtain ⟨vs, hvs⟩ := den_flats r h.2
    exact ⟨v :: vs, fun σ => by simp only [denL, hv σ, hvs σ, Option.bind_some, Option.map_some]⟩
end
include hC in
theorem opc_ok {call : Nat → List SV → St → Option (SV × St)} (hcall : CallOk C call) (hF : Frm σ sf fr) (hpre : Pre σ0 σ) (hsame : ∀ i, i < b.n → σ i = σ0 i) (hdom : ∀ i q, σ0 i = some q → i < b.n) {stW : St} {S : Nat → Prop} (hrep : ∀ h1, ExtP S h0 h1 → Rep C.ng stW σ0 h1) {o : Oper} {k : SV → Option β} (e : C.opc call o b.n sf stW k = some r) :
    ∃ v s, k s = some r ∧ den σ s = some v ∧ ∀ h1, ExtP S h0 h1 → Vm.opqc C.P o fr h1 fun u => u = v := by
  unfold Cx.opc at e
  split at e
  · rename_i hq
    simp only [opqQ_eq, Option.bind_eq_some_iff] at e
    obtain ⟨s, hs, e⟩ := e
    obtain ⟨v, hv, _⟩ := opq_ok hC hF ((hrep h0 (ExtP.refl _ _)).obs hpre) hs
    refine ⟨v, s, e, hv, fun h1 hx => ?_⟩
    obtain ⟨v', hv', hk⟩ := opq_ok hC hF ((hrep h1 hx).obs hpre) hs
    rw [hv] at hv'; cases hv'
    unfold Vm.opqc
    rw [← quiet_eq hC, hq]
    exact hk _ rfl
  · rename_i hq
    split at e
    · rename_i c ho
      split at e
      · rename_i f hc
        simp only [Option.bind_eq_some_iff] at e
        obtain ⟨fv, hf, e⟩ := e
        obtain ⟨u, u1, u2⟩ := evO_ok hF hf
        split at e
        · rename_i g first cap
          simp only [Option.bind_eq_some_iff] at e
          obtain ⟨vs, hvs, e⟩ := e
          obtain ⟨us, v1, v2⟩ := evOs_ok hF _ _ hvs
          split at e
          · rename_i hbl
            simp only [Option.bind_eq_some_iff] at e
            obtain ⟨⟨s, st'⟩, hcl, e⟩ := e
            split at e
            · rename_i hcond
              simp only [Bool.and_eq_true, Nat.ble_eq] at hcond
              obtain ⟨v, hv⟩ := den_flat s hcond.2
              obtain ⟨x, y, h1, h2, rfl⟩ := den_f u2
              have hall := denL_append _ _ _ _ (denL_append _ _ _ _ h1 v2) h2
              rw [denL_below hsame _ hbl] at hall
              refine ⟨v, s, e, hv σ, fun h1 hx => ?_⟩
              unfold Vm.opqc
              rw [← quiet_eq hC, hq]
              simp only [ho, hc, evk_of u1]
              refine ⟨us, v1, v, fun h2 hx2 => ?_, rfl⟩
              have hfx := hcall _ _ _ _ _ hcl σ0 h2 _ ((hrep h1 hx).ext hx2) hall
              have : (x.toArray ++ us.toArray ++ y.toArray) = (x ++ us ++ y).toArray := by simp
              rw [this]
              refine hfx.mono fun w h3 ⟨σ', hd, hG⟩ => ?_
              rw [hv σ'] at hd; cases hd
              exact ⟨rfl, hG.steps.only fun i q hi => Nat.lt_of_lt_of_le (hdom i q hi) hcond.1⟩
            · cases e
          · cases e
        · cases e
      · cases e
    · cases e
theorem waitL_ok {all : List Oper} {i : Nat} {listed : Array Bool} (hc : ∀ j oj, all[j]? = some oj → listed.getD j false = true → ∀ e ∈ oj.after, Region.binds .any e = true → listed.getD e.on false = true) : ∀ (l : List Oper) (k : Nat) (S : List Nat), (∀ m o, l[m]? = some o → all[k + m]? = some o) →
    (∀ x ∈ S, listed.getD x false = false ∧ (x = i ∨ ∃ ox, all[x]? = some ox ∧ ∃ e ∈ ox.after, Region.binds .any e = true ∧ listed.getD e.on false = false)) →
    ∀ x ∈ waitL l k S, listed.getD x false = false ∧ (x = i ∨ ∃ ox, all[x]? = some ox ∧ ∃ e ∈ ox.after, Region.binds .any e = true ∧ listed.getD e.on false = false)
  | [], k, S, _, hS, x, hx => hS x hx
  | o :: l, k, S, hl, hS, x, hx => by
    unfold waitL at hx
    have hk : all[k]? = some o := by simpa using hl 0 o rfl
    refine waitL_ok hc l (k + 1) _ (fun m o' h => by rw [show k + 1 + m = k + (m + 1) by omega]; exact hl (m + 1) o' (by simpa using h)) (fun y hy => ?_) x hx
    split at hy
    · rename_i hany
      simp only [List.mem_cons] at hy
      rcases hy with rfl | hy
      · simp only [List.any_eq_true, Bool.and_eq_true] at hany
        obtain ⟨e, he, hb, hSe⟩ := hany
        have he' : e ∈ o.after := by simpa using he
        have hu := (hS e.on (List.contains_iff_mem.1 hSe)).1
        refine ⟨?_, .inr ⟨o, hk, e, he', hb, hu⟩⟩
        cases hlk : listed.getD y false with
        | false => rfl
        | true =>
          have := hc y o hk hlk e he' hb
          rw [hu] at this
          cases this
      · exact hS y hy
    · exact hS y hy
theorem waits_free {all : List Oper} {i j : Nat} (hf : Free .any all.toArray i j) : (waitL all 0 [i]).contains j = false := by
  obtain ⟨hne, listed, hc, hi, oj, hoj, hall⟩ := hf
  cases hw : (waitL all 0 [i]).contains j with
  | false => rfl
  | true =>
    have := (waitL_ok (i := i) (listed := listed) (fun j oj h => hc j oj (by simpa using h)) all 0 [i] (fun m o h => by simpa using h) (fun x hx => by
      have : x = i := by simpa using hx
      subst this
      exact ⟨hi, .inl rfl⟩) j (List.contains_iff_mem.1 hw)).2
    rcases this with h | ⟨ox, hox, e, he, hb, hu⟩
    · exact absurd h hne
    · have : ox = oj := by
        have h2 : all.toArray[j]? = some ox := by simpa using hox
        rw [hoj] at h2
        exact (Option.some.inj h2).symm
      subst this
      rw [hall e he hb] at hu
      cases hu
theorem turned_eq (all : List Oper) (dn : List Nat) (i : Nat) (W : List (Nat × Nat)) : turned all dn i W = (W.filter fun q => (!Nat.beq q.1 KPm && !(waitL all 0 [i]).contains q.1) || dn.contains q.1).map (·.2) := by
  unfold turned
  cases W with
  | nil => rfl
  | cons w W => simp only [forceNs_eq]
theorem lgS_ok {a : Option ((SF × St) × Lg)} {i : Nat} {st st' : St} {z : (SF × St) × Lg} (e : andS a (lgS i st st') = some z) : ∃ lg, a = some (z.1, lg) := by
  unfold andS lgS at e
  simp only [Option.bind_eq_some_iff, Option.some.injEq] at e
  obtain ⟨x, hx, rfl⟩ := e
  exact ⟨x.2, hx⟩
theorem liked {y z : (SF × St) × Lg} {N : Nat} (hs : alikeS N y z = true) (hbN : b.n ≤ N) (H0 : Rep C.ng b σ0 h0) {L : Fr → Heap → Prop} (hL : ∀ σ' fr' h', Frm σ' y.1.1 fr' → HI C b σ0 h0 n1 true y.1.2 σ' h' → L fr' h') :
    ∀ σ' fr' h', Frm σ' z.1.1 fr' → HI C b σ0 h0 n1 true z.1.2 σ' h' → L fr' h' := fun σ' fr' h' hF hI => by
  obtain ⟨τ, h1, h2⟩ := alike_ok hs hbN H0 hF hI
  exact hL τ fr' h' h1 h2
include hC in
theorem head1_ok {call : Nat → List SV → St → Option (SV × St)} (hcall : CallOk C call) {all : List Oper} {res : List Nat} {i : Nat} {s : HT} {dn hid : List Nat} (x : HB C all res b σ0 h0 n1 (wildD W dn) hid sf st σ fr h) {z : (SF × St) × Lg} (e : C.head1 call all W b.n res i s dn hid sf st = some z) {K : Fr → Heap → Prop}
    (hK : ∀ hid' sf' st' σ' fr' h' lg, s (i :: dn) hid' sf' st' = some (z.1, lg) → HB C all res b σ0 h0 n1 (wildD W (i :: dn)) hid' sf' st' σ' fr' h' → K fr' h') : evKI C.P all (Keeps W σ0 h0 i) K i fr h := by
  unfold Cx.head1 at e
  split at e
  · rename_i rr hrr
    exact hide_ok hC x hrr e fun hid' sf' st' σ' fr' h' e' x' _ => hK hid' sf' st' σ' fr' h' z.2 e' x'
  · obtain ⟨hid', sf', st', σ', e1, x1, hn⟩ := reveal_ok hid [] sf st σ _ (by rw [List.append_nil]; exact x) e
    split at e1
    · rename_i hfree
      refine imp_ok hC hcall x1.frm x1.hi e1 fun sf2 st2 σ2 fr2 h2 e2 hF2 hI2 hS => ?_
      obtain ⟨lg, e3⟩ := lgS_ok e2
      refine hK hid' sf2 st2 σ2 fr2 h2 lg e3 ⟨hF2, hI2, ?_, x1.res⟩
      obtain ⟨o, v, g1, low, g2, ho, rfl, hx1, hS, hx2⟩ := hS
      obtain ⟨qf, X⟩ := x1.hx
      exact ⟨qf, (((X.ext hx1).goes (Nat.le_trans x1.res x1.hi.n1) hS).ext hx2).put ho hfree v⟩
    · cases e1
include hC in
theorem head_ok {call : Nat → List SV → St → Option (SV × St)} (hcall : CallOk C call) (H0 : Rep C.ng b σ0 h0) {all : List Oper} {res : List Nat} {sfE : SF} {stE : St} {lgE : Lg} (hn1 : b.n ≤ n1) (hlen : all.length ≤ KPm) : ∀ (t : Tree) (dn hid : List Nat) (sf : SF) (st : St) (σ : Env) (fr : Fr) (h : Heap),
    C.headT call all W { b with low := n1, n := n1 } b.n res t dn hid sf st = some ((sfE, stE), lgE) → HB C all res b σ0 h0 n1 (wildD W dn) hid sf st σ fr h → ∀ U : Nat → Prop, (∀ c, c < h0.size → (∀ j ∈ dn, Keeps W σ0 h0 j c) → U c) →
    ∀ L : Fr → Heap → Prop, (∀ σ' fr' h', Frm σ' sfE fr' → HI C b σ0 h0 n1 true stE σ' h' → L fr' h') → Vm.evL C.P all (Keeps W σ0 h0) h0 L t U fr h
  | .leaf, dn, hid, sf, st, σ, fr, h, e, x, U, hU, L, hL => by
    simp only [Cx.headT] at e
    obtain ⟨hid', sf', st', σ', e1, x1, hn⟩ := reveal_ok hid [] sf st σ _ (by rw [List.append_nil]; exact x) e
    simp only [Option.some.injEq, Prod.mk.injEq] at e1
    obtain ⟨⟨rfl, rfl⟩, _⟩ := e1
    exact fun h' hx => hL σ' fr h' x1.frm ((x1.hi.more true).ext hx)
  | .q i t, dn, hid, sf, st, σ, fr, h, e, x, U, hU, L, hL => by
    unfold Cx.headT Cx.headQ at e
    obtain ⟨hid', sf', st', σ', e, x1, hn⟩ := reveal_ok hid [] sf st σ _ (by rw [List.append_nil]; exact x) e
    split at e
    · rename_i hfree
      simp only [Option.bind_eq_some_iff] at e
      obtain ⟨o, ho, e⟩ := e
      unfold Vm.evL
      simp only [ho]
      have hput : ∀ v, ∃ qf, HX C all res b.n h0 σ' (Vm.put fr o.dst v) h hid' qf := fun v => by
        obtain ⟨qf, X⟩ := x1.hx
        exact ⟨qf, X.put ho hfree v⟩
      refine gk_ok x1.frm e (fun e => ?_) (fun e => ?_)
      · rw [turned_eq] at e
        obtain ⟨stW, e, hrep⟩ := killA_ok (b := { b with low := n1, n := n1 }) (H0.lown n1 n1 hn1) e
        obtain ⟨v, s, e, hv, hq⟩ := opc_ok hC hcall x1.frm x1.hi.steps.pre x1.hi.steps.same (fun i q hi => (H0.dom i q hi).1) hrep e
        obtain ⟨sf2, e, hF'⟩ := x1.frm.put hv e
        have hpj : ∀ j, Free .any all.toArray i j → ∀ q : Nat × Nat, q.1 = j → ((!Nat.beq q.1 KPm && !(waitL all 0 [i]).contains q.1) || dn.contains q.1) = true := fun j hj q hqj => by
          have hjl : j < all.length := by
            obtain ⟨_, _, _, _, oj, hoj, _⟩ := hj
            simpa using (Array.getElem?_eq_some_iff.1 hoj).1
          have hne : Nat.beq j KPm = false := by
            cases hb : Nat.beq j KPm with
            | false => rfl
            | true => have := Nat.eq_of_beq_eq_true hb; omega
          simp only [hqj, waits_free hj, hne]; rfl
        have hpd : ∀ j ∈ dn, ∀ q : Nat × Nat, q.1 = j → ((!Nat.beq q.1 KPm && !(waitL all 0 [i]).contains q.1) || dn.contains q.1) = true := fun j hj q hqj => by simp [hqj, hj]
        refine ⟨v, _, fun j hj c hc => ⟨hc.1, fun q hqW hqj => hc.2.1 q hqW (hpj j hj q hqj), fun hw => ?_⟩, fun c hc => hU c hc.1 fun j hj => ⟨hc.1, fun q hqW hqj => hc.2.1 q hqW (hpd j hj q hqj), fun hw => ?_⟩, hq, head_ok hcall H0 hn1 hlen t dn hid' sf2 st' σ' _ h e ⟨hF', x1.hi, hput v, x1.res⟩ U hU L hL⟩
        · obtain ⟨q, h1, h2, h3⟩ := wildI_ok.1 hw
          exact hc.2.2 ⟨q, h1, hpj j hj q h2, h3⟩
        · obtain ⟨q, h1, h2, h3⟩ := wildI_ok.1 hw
          exact hc.2.2 ⟨q, h1, hpd j hj q h2, h3⟩
      · obtain ⟨sf2, e, hF'⟩ := x1.frm.put (den_undef σ') e
        exact head_ok hcall H0 hn1 hlen t dn hid' sf2 st' σ' _ h e ⟨hF', x1.hi, hput undef, x1.res⟩ U hU L hL
    · cases e
  | .i1 i t, dn, hid, sf, st, σ, fr, h, e, x, U, hU, L, hL =>
    head1_ok hC hcall x (by unfold Cx.headT at e; exact e) fun hid' sf' st' σ' fr' h' lg e' x' =>
      head_ok hcall H0 hn1 hlen t (i :: dn) hid' sf' st' σ' fr' h' e' x' _ (fun c hc hj => ⟨hU c hc fun j hj' => hj j (List.mem_cons_of_mem _ hj'), hj i List.mem_cons_self⟩) L hL
  | .i2 i s j t, dn, hid, sf, st, σ, fr, h, e, x, U, hU, L, hL => by
    simp only [Cx.headT, Cx.head2, andS, Option.bind_eq_some_iff] at e
    obtain ⟨y, e1, z, e2, e⟩ := e
    split at e
    · rename_i hs
      cases e
      have hbN : b.n ≤ st.n := Nat.le_trans x.hi.n0 x.hi.n1
      exact ⟨head1_ok hC hcall x e1 fun hid' sf' st' σ' fr' h' lg e' x' =>
          head_ok hcall H0 hn1 hlen s (i :: dn) hid' sf' st' σ' fr' h' e' x' _ (fun c hc hj => ⟨hU c hc fun j hj' => hj j (List.mem_cons_of_mem _ hj'), hj i List.mem_cons_self⟩) L hL,
        head1_ok hC hcall x e2 fun hid' sf' st' σ' fr' h' lg e' x' =>
          head_ok hcall H0 hn1 hlen t (j :: dn) hid' sf' st' σ' fr' h' e' x' _ (fun c hc hj' => ⟨hU c hc fun l hl => hj' l (List.mem_cons_of_mem _ hl), hj' j List.mem_cons_self⟩) L (liked hs hbN H0 hL)⟩
    · cases e
  | .i3 i s j t k u, dn, hid, sf, st, σ, fr, h, e, x, U, hU, L, hL => by
    simp only [Cx.headT, Cx.head3, andS, Option.bind_eq_some_iff] at e
    obtain ⟨y, e1, z, e2, z2, e3, e⟩ := e
    split at e
    · rename_i hs
      cases e
      simp only [Bool.and_eq_true] at hs
      have hbN : b.n ≤ st.n := Nat.le_trans x.hi.n0 x.hi.n1
      exact ⟨head1_ok hC hcall x e1 fun hid' sf' st' σ' fr' h' lg e' x' =>
          head_ok hcall H0 hn1 hlen s (i :: dn) hid' sf' st' σ' fr' h' e' x' _ (fun c hc hj => ⟨hU c hc fun j hj' => hj j (List.mem_cons_of_mem _ hj'), hj i List.mem_cons_self⟩) L hL,
        head1_ok hC hcall x e2 fun hid' sf' st' σ' fr' h' lg e' x' =>
          head_ok hcall H0 hn1 hlen t (j :: dn) hid' sf' st' σ' fr' h' e' x' _ (fun c hc hj' => ⟨hU c hc fun l hl => hj' l (List.mem_cons_of_mem _ hl), hj' j List.mem_cons_self⟩) L (liked hs.1 hbN H0 hL),
        head1_ok hC hcall x e3 fun hid' sf' st' σ' fr' h' lg e' x' =>
          head_ok hcall H0 hn1 hlen u (k :: dn) hid' sf' st' σ' fr' h' e' x' _ (fun c hc hj' => ⟨hU c hc fun l hl => hj' l (List.mem_cons_of_mem _ hl), hj' k List.mem_cons_self⟩) L (liked hs.2 hbN H0 hL)⟩
    · cases e
end
end Go.Proofs.YtdielfpgekenkaaGreatDoor.Sx
namespace Go.Proofs.YtdielfpgekenkaaGreatDoor.Sx
open Go Vm
set_option linter.unusedSimpArgs false
set_option linter.unusedVariables false
def okRegion (C : Cx) (f n id : Nat) (ops : Array Oper) (draw : Bool) : Bool :=
  dstsB n ops.toList && match draw with
    | false => true
    | true => match C.tab f id with
      | some T => regT2 ops T.m T.t
      | none => true
def okCode (C : Cx) (f n : Nat) : Code → Bool
  | .region id ops draw => okRegion C f n id ops draw
  | .seq a b => okCode C f n a && okCode C f n b
  | .cond _ a b => okCode C f n a && okCode C f n b
  | .block _ c => okCode C f n c
  | .loop c => okCode C f n c
  | _ => true
def exOf : SX → Exit
  | .normal => .normal
  | .exit id => .exit id
  | .ret => .ret
section
variable {C : Cx} (hC : CxOk C) (hm : C.P.follows .mixedOrders = true) {β : Type} {r : β} {ds : List Deferred}
theorem wset_ok {call : Nat → List SV → St → Option (SV × St)} {ops : List Oper} {T : Tab} {n1 : Nat} {fr : SF} {st : St} {k : List (Nat × Nat) → Option β} (e : C.wset call ops T n1 fr st k = some r) : ∃ W, k W = some r := by
  unfold Cx.wset at e
  split at e
  · exact ⟨_, e⟩
  · unfold andS at e
    simp only [Option.bind_eq_some_iff] at e
    obtain ⟨_, _, e⟩ := e
    exact ⟨_, e⟩
include hC hm in
theorem region_ok {call : Nat → List SV → St → Option (SV × St)} (hcall : CallOk C call) {f n id : Nat} {ops : Array Oper} {draw : Bool} (hok : okRegion C f n id ops draw = true) {sf : SF} {st : St} {σ : Env} {fr : Fr} {h : Heap} {k : SF → St → Option β}
    (e : C.region call f id ops.toList draw sf st k = some r) (hF : Frm σ sf fr) (H : Rep C.ng st σ h) {Q : Exit → Fr → Heap → Prop} (hQ : ∀ sf' st' σ' fr' h', k sf' st' = some r → Frm σ' sf' fr' → Goes C.ng st σ h st' σ' h' → Q .normal fr' h') :
    CwD ds C.P n (.region id ops draw) Q fr h := by
  unfold okRegion at hok
  simp only [Bool.and_eq_true] at hok
  obtain ⟨hd, hok⟩ := hok
  unfold Cx.region at e
  cases draw with
  | false => exact cw_region hd (ops_ok hC hcall ops.toList sf st σ fr h k e hF H _ hQ)
  | true =>
    simp only [Option.bind_eq_some_iff] at e
    obtain ⟨T, hT, e⟩ := e
    simp only [hT] at hok
    split at e
    · cases e
    rename_i hlen
    rw [Nat.ble_eq] at hlen
    rw [forceN_eq] at e
    obtain ⟨W, e⟩ := wset_ok e
    unfold andS at e
    simp only [Option.bind_eq_some_iff] at e
    obtain ⟨⟨⟨sfE, stE⟩, lgE⟩, eh, e⟩ := e
    rw [forceN_eq] at e
    have hn1 : st.n ≤ st.n + T.res.length := Nat.le_add_right _ _
    have x0 : HI C st σ h (st.n + T.res.length) (wildD W []) { st with low := st.n + T.res.length, n := st.n + T.res.length } σ h :=
      ⟨H.lown _ _ hn1, Steps.refl _ _ _ _, hn1, Nat.le_refl _, fun _ i q hi e => by have := (H.dom i q e).1; omega, H.ngn, Nat.le_refl _⟩
    refine cw_turns hm T.m (Keeps W σ h) T.t hok hd ?_
    refine head_ok hC hcall H hn1 hlen T.t [] [] sf _ σ fr h eh ⟨hF, x0, ⟨fun _ => 0, HX.nil⟩, Nat.le_refl _⟩ _ (fun _ _ _ => trivial) _ fun σ' fr' h' hF' x => ?_
    have hG : Goes C.ng st σ h { stE with low := min st.low stE.low } σ' h' :=
      ⟨x.rep.low _, x.steps.less (Nat.le_refl _) (Nat.min_le_right _ _), Nat.min_le_left _ _, by have := x.n0; have := x.n1; show st.n ≤ stE.n; omega⟩
    exact ops_ok hC hcall _ sfE _ σ' fr' h' k e hF' hG.rep _ fun sf2 st2 σ2 fr2 h2 e2 hF2 hG2 => hQ sf2 st2 σ2 fr2 h2 e2 hF2 (hG.trans hG2)
include hC hm in
theorem code_ok {call : Nat → List SV → St → Option (SV × St)} (hcall : CallOk C call) {f n fuel : Nat} : ∀ (c : Code) (sf : SF) (st : St) (σ : Env) (fr : Fr) (h : Heap) (k : SX → SF → St → Option β), okCode C f n c = true → C.code call f fuel c sf st k = some r → Frm σ sf fr → Rep C.ng st σ h →
    ∀ Q : Exit → Fr → Heap → Prop, (∀ e sf' st' σ' fr' h', k e sf' st' = some r → Frm σ' sf' fr' → Goes C.ng st σ h st' σ' h' → Q (exOf e) fr' h') → CwD ds C.P n c Q fr h
  | .skip, sf, st, σ, fr, h, k, hok, e, hF, H, Q, hQ => cw_skip (hQ .normal sf st σ fr h e hF (Goes.refl H))
  | .region id ops draw, sf, st, σ, fr, h, k, hok, e, hF, H, Q, hQ => region_ok hC hm hcall hok e hF H fun sf' st' σ' fr' h' e hF' hG => hQ .normal sf' st' σ' fr' h' e hF' hG
  | .seq a b, sf, st, σ, fr, h, k, hok, e, hF, H, Q, hQ => by
    simp only [okCode, Bool.and_eq_true] at hok
    refine cw_seq (code_ok hcall a sf st σ fr h _ hok.1 e hF H _ fun x sf' st' σ' fr' h' e hF' hG => ?_)
    cases x with
    | normal => exact code_ok hcall b sf' st' σ' fr' h' k hok.2 e hF' hG.rep Q fun y sf2 st2 σ2 fr2 h2 e2 hF2 hG2 => hQ y sf2 st2 σ2 fr2 h2 e2 hF2 (hG.trans hG2)
    | exit id => exact hQ (.exit id) sf' st' σ' fr' h' e hF' hG
    | ret => exact hQ .ret sf' st' σ' fr' h' e hF' hG
  | .cond c x y, sf, st, σ, fr, h, k, hok, e, hF, H, Q, hQ => by
    simp only [okCode, Bool.and_eq_true] at hok
    unfold Cx.code at e
    simp only [Option.bind_eq_some_iff] at e
    obtain ⟨cs, hc, e⟩ := e
    obtain ⟨cv, c1, c2⟩ := evO_ok hF hc
    split at e
    · rw [den_b c2] at c1
      exact cw_true c1 (code_ok hcall x sf st σ fr h k hok.1 e hF H Q hQ)
    · rw [den_b c2] at c1
      exact cw_false c1 (code_ok hcall y sf st σ fr h k hok.2 e hF H Q hQ)
    · cases e
  | .block id c, sf, st, σ, fr, h, k, hok, e, hF, H, Q, hQ => by
    simp only [okCode] at hok
    refine cw_block (code_ok hcall c sf st σ fr h _ hok e hF H _ fun x sf' st' σ' fr' h' e hF' hG => ?_)
    cases x with
    | normal => exact hQ .normal sf' st' σ' fr' h' e hF' hG
    | exit id' =>
      simp only at e
      simp only [exOf, blockQ]
      split at e
      · rename_i he
        rw [if_pos he]
        exact hQ .normal sf' st' σ' fr' h' e hF' hG
      · rename_i he
        rw [if_neg he]
        exact hQ (.exit id') sf' st' σ' fr' h' e hF' hG
    | ret => exact hQ .ret sf' st' σ' fr' h' e hF' hG
  | .loop c, sf, st, σ, fr, h, k, hok, e, hF, H, Q, hQ => by
    simp only [okCode] at hok
    unfold Cx.code at e
    refine cw_iter (I := fun m fr' h' => ∃ sf' st' σ', iter (C.code call f fuel c) m sf' st' k = some r ∧ Frm σ' sf' fr' ∧ Goes C.ng st σ h st' σ' h') (fun m fr' h' => ?_) ⟨sf, st, σ, e, hF, Goes.refl H⟩
    rintro ⟨sf', st', σ', e, hF', hG⟩
    cases m with
    | zero => simp [iter] at e
    | succ m =>
      unfold iter at e
      refine code_ok hcall c sf' st' σ' fr' h' _ hok e hF' hG.rep _ fun x sf2 st2 σ2 fr2 h2 e hF2 hG2 => ?_
      cases x with
      | normal => exact ⟨m, Nat.lt_succ_self m, sf2, st2, σ2, e, hF2, hG.trans hG2⟩
      | exit id => exact hQ (.exit id) sf2 st2 σ2 fr2 h2 e hF2 (hG.trans hG2)
      | ret => exact hQ .ret sf2 st2 σ2 fr2 h2 e hF2 (hG.trans hG2)
  | .exit id, sf, st, σ, fr, h, k, hok, e, hF, H, Q, hQ => cw_exit (hQ (.exit id) sf st σ fr h e hF (Goes.refl H))
  | .ret, sf, st, σ, fr, h, k, hok, e, hF, H, Q, hQ => cw_ret (hQ .ret sf st σ fr h e hF (Goes.refl H))
  | .rangeFunc _ _ _ _, sf, st, σ, fr, h, k, hok, e, hF, H, Q, hQ => by simp [Cx.code] at e
  | .scope _, sf, st, σ, fr, h, k, hok, e, hF, H, Q, hQ => by simp [Cx.code] at e
  | .label _, sf, st, σ, fr, h, k, hok, e, hF, H, Q, hQ => by simp [Cx.code] at e
  | .goto _, sf, st, σ, fr, h, k, hok, e, hF, H, Q, hQ => by simp [Cx.code] at e
  | .refuse _, sf, st, σ, fr, h, k, hok, e, hF, H, Q, hQ => by simp [Cx.code] at e
/-! ### functions -/
theorem argsS_ok {σ : Env} : ∀ (l : List SV) (i : Nat) (sf : SF) (k : SF → Option β), argsS l i sf k = some r → ∃ sf', k sf' = some r ∧ sf'.ng = sf.ng ∧ ∀ t s, sf'.get t = some s → (i ≤ t ∧ l[t - i]? = some s) ∨ sf.get t = some s
  | [], i, sf, k, e => ⟨sf, e, rfl, fun t s h => .inr h⟩
  | v :: l, i, sf, k, e => by
    unfold argsS putS at e
    simp only [forceQ_eq] at e
    obtain ⟨t', e, hg⟩ := setK_some _ _ _ _ _ _ e
    obtain ⟨sf', h1, h2, h3⟩ := argsS_ok (σ := σ) l (i + 1) _ k e
    refine ⟨sf', h1, h2, fun t s ht => ?_⟩
    rcases h3 t s ht with ⟨h4, h5⟩ | h4
    · exact .inl ⟨by omega, by rw [show t - i = (t - (i + 1)) + 1 by omega]; simpa using h5⟩
    · unfold SF.get at h4
      simp only at h4
      rw [hg] at h4
      split at h4
      · rename_i et
        cases h4
        exact .inl ⟨by omega, by simp [et]⟩
      · exact .inr h4
theorem lk_args : ∀ (l : List Value) (i t : Nat) (v : Value), i ≤ t → l[t - i]? = some v → lk (argsFr l i) t = some v
  | [], _, _, _, _, h => by simp at h
  | u :: l, i, t, v, hi, h => by
    simp only [argsFr, lk]
    split
    · rename_i e; subst e; simpa using h
    · rename_i e
      refine lk_args l (i + 1) t v (by omega) ?_
      rw [show t - i = (t - (i + 1)) + 1 by omega] at h
      simpa using h
theorem args_ok {σ : Env} {l : List SV} {vs : List Value} {ng : Nat} (hl : denL σ l = some vs) (hg : ∀ g, g < ng → ∃ c, σ g = some (g, c)) {k : SF → Option β} (e : argsS l 0 ⟨ng, .nil⟩ k = some r) : ∃ sf, k sf = some r ∧ Frm σ sf (argsFr vs 0) := by
  obtain ⟨sf, h1, h2, h3⟩ := argsS_ok (σ := σ) l 0 _ k e
  refine ⟨sf, h1, fun t s ht => ?_, fun g hgg => hg g (by rw [h2] at hgg; exact hgg)⟩
  rcases h3 t s ht with ⟨_, h5⟩ | h5
  · obtain ⟨v, hv, hvs⟩ := denL_get _ _ _ _ hl h5
    exact ⟨v, hv, lk_args vs 0 t v (Nat.zero_le _) hvs⟩
  · simp [SF.get, get_nil, get_zero] at h5
include hC in
theorem resS_ok {sf : SF} {st : St} {σ : Env} {fr : Fr} {h : Heap} (hF : Frm σ sf fr) (hO : Obs st σ h) : ∀ (l : List ResultVar) (ls : List SV), C.resS sf st l = some ls → ∃ vs, denL σ ls = some vs ∧ ∀ k : List Value → Prop, k vs → resL C.P l fr h k
  | [], ls, e => by simp only [Cx.resS, Option.some.injEq] at e; subst e; exact ⟨[], rfl, fun k hk => hk⟩
  | .tmp t :: l, ls, e => by
    simp only [Cx.resS, Option.bind_eq_some_iff, Option.map_eq_some_iff] at e
    obtain ⟨s, hs, ls', h1, rfl⟩ := e
    obtain ⟨v, hv, hlk⟩ := hF.rel t s hs
    obtain ⟨vs, h2, h3⟩ := resS_ok hF hO l ls' h1
    refine ⟨v :: vs, by simp only [denL, hv, h2, Option.bind_some, Option.map_some], fun k hk => ?_⟩
    unfold resL
    simp only [hlk]
    exact h3 _ hk
  | .cell a T :: l, ls, e => by
    simp only [Cx.resS, Option.bind_eq_some_iff] at e
    obtain ⟨s, hs, e⟩ := e
    obtain ⟨v, hv, hlk⟩ := hF.rel a s hs
    split at e
    · simp only [Option.bind_eq_some_iff, Option.map_eq_some_iff] at e
      obtain ⟨x, hx, ls', h1, rfl⟩ := e
      obtain ⟨q, xv, hq, hxv, hk⟩ := loadS_ok hC hO hx
      obtain ⟨q', hq', rfl⟩ := den_p hv
      rw [hq] at hq'; cases hq'
      obtain ⟨vs, h2, h3⟩ := resS_ok hF hO l ls' h1
      refine ⟨xv :: vs, by simp only [denL, hxv, h2, Option.bind_some, Option.map_some], fun k hk' => ?_⟩
      unfold resL
      simp only [hlk]
      exact hk _ (h3 _ hk')
    · cases e
theorem one_ok {σ : Env} {ls : List SV} {vs : List Value} (h : denL σ ls = some vs) : den σ (oneS ls) = some (one vs) := by
  match ls, vs, h with
  | [], vs, h => simp only [denL, Option.some.injEq] at h; subst h; rfl
  | [s], vs, h =>
    simp only [denL, Option.bind_eq_some_iff, Option.map_eq_some_iff, Option.some.injEq] at h
    obtain ⟨v, hv, _, rfl, rfl⟩ := h
    exact hv
  | s :: t :: ls, vs, h =>
    have hl := denL_length _ _ h
    match vs, hl with
    | u :: v :: vs, _ => simp only [oneS, den, h, Option.map_some]; rfl
end
end Go.Proofs.YtdielfpgekenkaaGreatDoor.Sx
