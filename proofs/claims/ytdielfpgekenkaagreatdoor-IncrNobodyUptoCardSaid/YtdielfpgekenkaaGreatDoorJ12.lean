/-
  Maps, calls, and all the operations that make or write memory.
  Regions that draw their order, once more: each operation has its own blocks that it keeps.
  Operations one behind the other.
-/
import Derived.Test.YtdielfpgekenkaaGreatDoorJ11
import Derived.Test.YtdielfpgekenkaaGreatDoorJ3
namespace Go.Proofs.YtdielfpgekenkaaGreatDoor.Sx
open Go Vm
set_option linter.unusedSimpArgs false
set_option linter.unusedVariables false
section
variable {C : Cx} (hC : CxOk C) {ng : Nat} {st : St} {σ : Env} {h : Heap} {sf : SF} {fr : Fr} {β : Type} {k : SV → St → Option β} {r : β}
theorem denM_cons {a b : SV} {es : List (SV × SV)} {m : MapEntry} {mes : List MapEntry} : denM σ ((a, b) :: es) (m :: mes) ↔ (den σ a = some m.key ∧ den σ b = some m.val) ∧ denM σ es mes := by
  unfold denM
  simp only [List.map_cons, denL, Option.bind_eq_some_iff, Option.map_eq_some_iff, List.cons.injEq]
  constructor
  · rintro ⟨⟨x, h1, y, h2, rfl, rfl⟩, ⟨z, h3, u, h4, rfl, rfl⟩⟩
    exact ⟨⟨h1, h3⟩, h2, h4⟩
  · rintro ⟨⟨h1, h3⟩, h2, h4⟩
    exact ⟨⟨_, h1, _, h2, rfl, rfl⟩, ⟨_, h3, _, h4, rfl, rfl⟩⟩
theorem denM_nil {mes : List MapEntry} : denM σ [] mes ↔ mes = [] := by
  unfold denM
  simp only [List.map_nil, denL, Option.some.injEq]
  constructor
  · rintro ⟨h, _⟩; simpa using h.symm
  · rintro rfl; simp
theorem upS_ok {P : Program} {kt : TypeId} {d : TypeDesc} (hd' : P.underlying kt = some d) {kk vv : SV} {kv v : Value} (hk : keyK P d kk) (hd : den σ kk = some kv) (hv : den σ vv = some v) : ∀ (es es' : List (SV × SV)) (mes : List MapEntry) (i : Nat), denM σ es mes → upS kk vv es = some es' →
    (Find P kt d kv mes i none ∧ (∀ x ∈ mes, x.key ≠ kv) ∧ ∀ m : MapEntry, m.key = kv → m.val = v → denM σ es' (mes ++ [m])) ∨
    ∃ j u, Find P kt d kv mes i (some (i + j, u)) ∧ (mes[j]?).map (·.key) = some kv ∧ denM σ es' (mes.modify j fun e => { e with key := kv, val := v })
  | [], es', mes, i, hm, e => by
    rw [denM_nil] at hm
    subst hm
    simp only [upS, Option.some.injEq] at e
    subst e
    exact .inl ⟨Find.nil, by simp, fun m h1 h2 => by rw [List.nil_append, denM_cons]; exact ⟨⟨h1 ▸ hd, h2 ▸ hv⟩, denM_nil.2 rfl⟩⟩
  | (k', u) :: es, es', mes, i, hm, e => by
    cases mes with
    | nil => unfold denM at hm; simp only [List.map_cons, denL, Option.bind_eq_some_iff, Option.map_eq_some_iff] at hm; obtain ⟨⟨_, _, _, _, h⟩, _⟩ := hm; simp at h
    | cons m mes =>
      rw [denM_cons] at hm
      obtain ⟨⟨hk', hu⟩, hm⟩ := hm
      unfold upS at e
      split at e
      · rename_i hc
        obtain ⟨hS, hkey⟩ := cmpK_ok hd' hk hd hk' hc
        cases e
        refine .inr ⟨0, m.val, Find.hit hS, by simp [hkey.2 rfl], ?_⟩
        rw [List.modify_zero_cons, denM_cons]
        exact ⟨⟨hd, hv⟩, hm⟩
      · rename_i hc
        obtain ⟨hS, hkey⟩ := cmpK_ok hd' hk hd hk' hc
        simp only [Option.map_eq_some_iff] at e
        obtain ⟨es2, e2, rfl⟩ := e
        rcases upS_ok hd' hk hd hv es es2 mes (i + 1) hm e2 with ⟨g1, g0, g2⟩ | ⟨j, x, g1, g2, g3⟩
        · refine .inl ⟨Find.miss hS g1, ?_, fun m2 h1 h2 => ?_⟩
          · intro x hx
            rcases List.mem_cons.1 hx with rfl | hx
            · intro h; cases hkey.1 h
            · exact g0 x hx
          rw [List.cons_append, denM_cons]
          exact ⟨⟨hk', hu⟩, g2 m2 h1 h2⟩
        · refine .inr ⟨j + 1, x, Find.miss hS (by rw [show i + (j + 1) = i + 1 + j by omega]; exact g1), by simpa using g2, ?_⟩
          rw [List.modify_succ_cons, denM_cons]
          exact ⟨⟨hk', hu⟩, g3⟩
      · cases e
theorem update_none {P : Program} {t kt et : TypeId} {d : TypeDesc} (ht : P.underlying t = some (.map kt et)) (hk : P.underlying kt = some d) {kv v : Value} (hkey : KeyOk P kt kv) {w : World} {b c : Nat} {es : Array MapEntry} (hb : w.heap[b]? = some (.map es c)) (hf : Find P kt d kv es.toList 0 none) :
    (Instr.mapUpdate t (.map (some b)) kv v).run P w = .ok () { w with heap := w.heap.setIfInBounds b (.map (es.push { key := kv, val := v, born := c }) (c + 1)) } := by
  have hc := hkey.1 false w
  have hfk := hf.run hk w
  simp [Instr.mapUpdate, run_underlying ht, MapKept.run_getObj_map hb, hc, hfk, MapKept.run_setObj_map _ hb, Result.andThen]
theorem update_some {P : Program} {t kt et : TypeId} {d : TypeDesc} (ht : P.underlying t = some (.map kt et)) (hk : P.underlying kt = some d) {kv v u : Value} (hkey : KeyOk P kt kv) {w : World} {b c j : Nat} {es : Array MapEntry} (hb : w.heap[b]? = some (.map es c)) (hf : Find P kt d kv es.toList 0 (some (j, u)))
    (hj : (es.toList[j]?).map (·.key) = some kv) :
    (Instr.mapUpdate t (.map (some b)) kv v).run P w = .ok () { w with heap := w.heap.setIfInBounds b (.map (es.modify j fun e => { e with key := kv, val := v }) c) } := by
  have hc := hkey.1 false w
  have hfk := hf.run hk w
  have hks : (Instr.keyThatStays (((es[j]?).map (·.key)).getD kv) kv).run P w = .ok kv w := by
    have : ((es[j]?).map (·.key)).getD kv = kv := by rw [← Array.getElem?_toList, hj]; rfl
    rw [this]
    exact hkey.2 w
  simp [Instr.mapUpdate, run_underlying ht, MapKept.run_getObj_map hb, hc, hfk, hks, MapKept.run_setObj_map _ hb, Result.andThen]
include hC in
theorem updS_ok (H : Rep ng st σ h) {t : Nat} {m x y : SV} {mv xv yv : Value} (e : C.updS st t m x y k = some r) (hm : den σ m = some mv) (hx : den σ x = some xv) (hy : den σ y = some yv) :
    RunsU C.P (Instr.mapUpdate t mv xv yv) h (fun h' => Out ng st σ h k r undef h') := by
  unfold Cx.updS at e
  rw [hC.und] at e
  split at e
  · rename_i kt et ht
    split at e
    · rename_i hkb
      obtain ⟨d, hd, hkk⟩ := keyB_ok hC hkb
      have hkey := keyK_is hd hkk hx
      split at e
      · rename_i id
        simp only [Option.bind_eq_some_iff] at e
        obtain ⟨es, he, es', hu, e⟩ := e
        obtain ⟨q, mes, c, hq, hb, hM, hget, hSt⟩ := map_obs (H.obs (Pre.refl _)) he
        obtain ⟨q', hq', rfl⟩ := den_m hm
        rw [hq] at hq'; cases hq'
        intro w hw
        subst hw
        have fin : ∀ (mes' : Array MapEntry) (c' : Nat), denM σ es' mes'.toList → MapKept.Stamped mes' c' → (Instr.mapUpdate t (.map (some q.1)) xv yv).run C.P w = .ok () { w with heap := w.heap.setIfInBounds q.1 (.map mes' c') } →
            ∃ w', (Instr.mapUpdate t (.map (some q.1)) xv yv).run C.P w = .ok () w' ∧ SameEnv w w' ∧ Out ng st σ w.heap k r undef w'.heap := by
          intro mes' c' hM' hSt' hrun
          have hT : Turns w.heap (w.heap.setIfInBounds q.1 (.map mes' c')) q.1 (.map mes' c') := ⟨by simp, (MapKept.heap_set hb).1, fun b hb' => (MapKept.heap_set hb).2 b hb'⟩
          obtain ⟨st', e', hG, _⟩ := writeS_ok H hget rfl hq hT (o := .map es') ⟨mes', c', rfl, hM'.1, hM'.2, hSt'⟩ e
          exact ⟨_, hrun, ⟨rfl, rfl, rfl⟩, undefS, st', σ, e', rfl, hG⟩
        rcases upS_ok hd hkk hx hy es es' mes.toList 0 hM hu with ⟨g1, g0, g2⟩ | ⟨j, u, g1, g2, g3⟩
        · exact fin _ _ (by simpa using g2 { key := xv, val := yv, born := c } rfl rfl) (MapKept.stamped_push hSt g0) (update_none ht hd hkey hb g1)
        · rw [Nat.zero_add] at g1
          exact fin _ _ (by rw [Array.toList_modify]; exact g3) (MapKept.stamped_modify hSt j (fun e => { e with key := xv, val := yv }) (fun _ _ => rfl) (fun e _ he => by rw [← Array.getElem?_toList] at he; rw [he] at g2; simpa using g2.symm)) (update_some ht hd hkey hb g1 g2)
      · cases e
    · cases e
  · cases e
theorem arr1 {α : Type} {a : Array α} {x : α} (h : a.toList = [x]) : a = #[x] := by apply Array.ext'; exact h
theorem arr2 {α : Type} {a : Array α} {x y : α} (h : a.toList = [x, y]) : a = #[x, y] := by apply Array.ext'; exact h
/-- what is asked of the evaluator of calls -/
def CallOk (C : Cx) (call : Nat → List SV → St → Option (SV × St)) : Prop := ∀ (g : Nat) (args : List SV) (st : St) (s : SV) (st' : St), call g args st = some (s, st') → ∀ (σ : Env) (h : Heap) (vs : List Value), Rep C.ng st σ h → denL σ args = some vs →
  Fx C.P g vs.toArray h fun v h' => ∃ σ', den σ' s = some v ∧ Goes C.ng st σ h st' σ' h'
include hC in
theorem opi_ok {call : Nat → List SV → St → Option (SV × St)} (hcall : CallOk C call) (hF : Frm σ sf fr) (H : Rep C.ng st σ h) {o : Oper} (e : C.opi call o sf st k = some r) : Vm.opi C.P o fr h (Out C.ng st σ h k r) := by
  have e0 := e
  unfold Cx.opi at e
  split at e
  · rename_i T ho; exact alloc_ok hC H ho e0
  · rename_i T x ho; exact box_ok hF H ho e0
  · rename_i t len parts ho; exact buildSlice_ok hC hF H ho e0
  · rename_i t x y ho; exact makeSlice_ok hC hF H ho e0
  · rename_i T x y ho; exact store_ok hC hF H ho e0
  · rename_i s t x ho
    simp only [Option.bind_eq_some_iff] at e
    obtain ⟨v, hv, e⟩ := e
    obtain ⟨u, u1, u2⟩ := evO_ok hF hv
    unfold Vm.opi
    simp only [ho, evk_of u1]
    exact ⟨_, conv_ok hC H e u2, fun _ _ h => h⟩
  · rename_i c ho
    split at e
    · rename_i f hc
      simp only [Option.bind_eq_some_iff] at e
      obtain ⟨fv, hf, e⟩ := e
      obtain ⟨u, u1, u2⟩ := evO_ok hF hf
      split at e
      · rename_i g first cap
        simp only [Option.bind_eq_some_iff] at e
        obtain ⟨vs, hvs, ⟨s, st'⟩, hcl, e⟩ := e
        obtain ⟨us, v1, v2⟩ := evOs_ok hF _ _ hvs
        obtain ⟨x, y, h1, h2, rfl⟩ := den_f u2
        unfold Vm.opi
        simp only [ho, hc, evk_of u1]
        have hall := denL_append _ _ _ _ (denL_append _ _ _ _ h1 v2) h2
        have hfx := hcall _ _ _ _ _ hcl σ h _ H hall
        refine ⟨us, v1, _, (by simpa using hfx), ?_⟩
        rintro v h' ⟨σ', hd, hG⟩
        exact ⟨s, st', σ', e, hd, hG⟩
      · cases e
    · rename_i hc
      simp only [Option.bind_eq_some_iff] at e
      obtain ⟨vs, hvs, e⟩ := e
      obtain ⟨us, v1, v2⟩ := evOs_ok hF _ _ hvs
      split at e
      · rename_i hT
        have hT' := arr2 hT
        simp only [denL, Option.bind_eq_some_iff, Option.map_eq_some_iff] at v2
        obtain ⟨a, ha, _, ⟨b, hb, _, hnil, rfl⟩, rfl⟩ := v2
        simp only [Option.some.injEq] at hnil
        subst hnil
        unfold Vm.opi
        simp only [ho, hc]
        refine ⟨_, v1, _, ?_, fun _ _ h => h⟩
        simp only [builtinV]
        rw [hT']
        exact append_ok hC H e ha hb
      · cases e
    · rename_i hc
      simp only [Option.bind_eq_some_iff] at e
      obtain ⟨vs, hvs, e⟩ := e
      obtain ⟨us, v1, v2⟩ := evOs_ok hF _ _ hvs
      split at e
      · rename_i hT
        have hT' := arr2 hT
        simp only [denL, Option.bind_eq_some_iff, Option.map_eq_some_iff] at v2
        obtain ⟨a, ha, _, ⟨b, hb, _, hnil, rfl⟩, rfl⟩ := v2
        simp only [Option.some.injEq] at hnil
        subst hnil
        unfold Vm.opi
        simp only [ho, hc]
        refine ⟨_, v1, _, ?_, fun _ _ h => h⟩
        simp only [builtinV]
        rw [hT']
        exact copy_ok hC H e ha hb
      · cases e
    · rename_i hc
      simp only [Option.bind_eq_some_iff] at e
      obtain ⟨vs, hvs, e⟩ := e
      obtain ⟨us, v1, v2⟩ := evOs_ok hF _ _ hvs
      split at e
      · rename_i hT
        have hT' := arr1 hT
        simp only [denL, Option.bind_eq_some_iff, Option.map_eq_some_iff] at v2
        obtain ⟨a, ha, _, hnil, rfl⟩ := v2
        simp only [Option.some.injEq] at hnil
        subst hnil
        unfold Vm.opi
        simp only [ho, hc]
        refine ⟨_, v1, _, ?_, fun _ _ h => h⟩
        simp only [builtinV]
        rw [hT']
        exact clear_ok hC H e ha
      · cases e
    · rename_i hc
      simp only [Option.bind_eq_some_iff] at e
      obtain ⟨vs, hvs, e⟩ := e
      obtain ⟨us, v1, v2⟩ := evOs_ok hF _ _ hvs
      split at e
      · split at e
        · rename_i hab
          subst hab
          simp only [denL, den, Option.bind_some, Option.map_some, Option.some.injEq] at v2
          subst v2
          unfold Vm.opi
          simp only [ho, hc]
          refine ⟨_, v1, _, ?_, fun _ _ h => h⟩
          intro w hw
          subst hw
          exact ⟨_, w, by simp only [builtinV]; exact run_min_int2 .., SameEnv.refl w, _, st, σ, e, rfl, Goes.refl H⟩
        · cases e
      · cases e
    · rename_i hc
      simp only [Option.bind_eq_some_iff] at e
      obtain ⟨vs, hvs, e⟩ := e
      obtain ⟨us, v1, v2⟩ := evOs_ok hF _ _ hvs
      split at e
      · split at e
        · rename_i hab
          subst hab
          simp only [denL, den, Option.bind_some, Option.map_some, Option.some.injEq] at v2
          subst v2
          unfold Vm.opi
          simp only [ho, hc]
          refine ⟨_, v1, _, ?_, fun _ _ h => h⟩
          intro w hw
          subst hw
          exact ⟨_, w, by simp only [builtinV]; exact run_max_int2 .., SameEnv.refl w, _, st, σ, e, rfl, Goes.refl H⟩
        · cases e
      · cases e
    · cases e
  · rename_i t ho
    unfold Vm.opi
    simp only [ho]
    intro h' hN
    obtain ⟨st', e', hG⟩ := newS_ok H (cap := 0) (o := .map []) hN (fun σ' _ => ⟨#[], 0, rfl, rfl, rfl, MapKept.stamped_empty 0⟩) e
    exact ⟨_, st', _, e', by simp only [den, upd_same, Option.map_some], hG⟩
  · rename_i t m x y ho
    simp only [Option.bind_eq_some_iff] at e
    obtain ⟨ms, hm, xs, hx, ys, hy, e⟩ := e
    obtain ⟨mv, m1, m2⟩ := evO_ok hF hm
    obtain ⟨xv, x1, x2⟩ := evO_ok hF hx
    obtain ⟨yv, y1, y2⟩ := evO_ok hF hy
    unfold Vm.opi
    simp only [ho, evk_of m1, evk_of x1, evk_of y1]
    exact ⟨_, updS_ok hC H e m2 x2 y2, fun _ h => h⟩
  · rename_i t m x y ho
    simp only [Option.bind_eq_some_iff] at e
    obtain ⟨ms, hm, xs, hx, ys, hy, e⟩ := e
    obtain ⟨mv, m1, m2⟩ := evO_ok hF hm
    obtain ⟨xv, x1, x2⟩ := evO_ok hF hx
    obtain ⟨yv, y1, y2⟩ := evO_ok hF hy
    unfold Vm.opi
    simp only [ho, evk_of m1, evk_of x1, evk_of y1]
    exact ⟨_, updS_ok hC H e m2 x2 y2, fun _ h => h⟩
  · cases e
end
end Go.Proofs.YtdielfpgekenkaaGreatDoor.Sx
namespace Go.Proofs.YtdielfpgekenkaaGreatDoor.Vm
open Go
variable {ds : List Deferred}
section
variable {P : Program} {ops : Array Oper} {md : Region.Mode} {B : Nat → Nat → Prop}
theorem ExtB.sub {S K : Nat → Prop} {w w' : World} (h : ExtB K w w') (hS : ∀ b, S b → K b) : ExtB S w w' := ⟨h.os, h.tape, h.output, h.size, fun b hb => h.block b (hS b hb)⟩
/-- may operation j run ahead of i? -/
def Free (md : Region.Mode) (ops : Array Oper) (i j : Nat) : Prop := j ≠ i ∧ ∃ listed : Array Bool, (∀ j oj, ops[j]? = some oj → listed.getD j false = true → ∀ e ∈ oj.after, Region.binds md e = true → listed.getD e.on false = true) ∧
  listed.getD i false = false ∧ ∃ oj, ops[j]? = some oj ∧ ∀ e ∈ oj.after, Region.binds md e = true → listed.getD e.on false = true
theorem opX_put2 {S K : Nat → Prop} (hSK : ∀ b, S b → K b) {j : Nat} {oi oj : Oper} {v : Value} (hj : ops[j]? = some oj) (hap : oi.apart ops oj = true)
    (hsi : ∀ cs b, oi.op ≠ .select cs b) (hsj : ∀ cs b, oj.op ≠ .select cs b) {Q : Act → World → Prop} {a : Act} {w : World}
    (hy : Stays P S ops oi v a w) (h : opX P K ops j Q (a.put oi.dst v) w) :
    opX P K ops j (fun a' w' => Stays P S ops oi v a' w' ∧ Q (a'.put oi.dst v) w') a w := by
  obtain ⟨h1, h2, h3⟩ := Oper.apart_spec hap
  have keep : ∀ (a : Act) (w : World), Stays P S ops oi v a w → ∀ u, Stays P S ops oi v (a.put oj.dst u) w := fun a w hy u =>
    hy.of_same (execOp_put oi hsi a oj.dst u h3) (wanted_put oi a oj.dst u h3)
  unfold opX at *
  simp only [hj] at *
  rw [wanted_put oj a oi.dst v h1] at h
  split
  · rename_i hw
    simp only [hw, if_true] at h
    unfold extX at *
    rw [execOp_put oj hsj a oi.dst v h1] at h
    generalize (execOp a.eval oj).run P w = r at *
    cases r with
    | halt x w' => exact h
    | ok n w' =>
      cases n <;> simp only [uponX] at h ⊢
      case value u => exact ⟨h.1, fun w3 e3 => ⟨keep a w3 (hy.later ((h.1.trans (e3.toB K)).sub hSK)) u, by rw [← Act.put_comm a v u h2]; exact h.2 w3 e3⟩⟩
      case skip => exact ⟨h.1, fun w3 e3 => ⟨keep a w3 (hy.later ((h.1.trans (e3.toB K)).sub hSK)) _, by rw [← Act.put_comm a v undef h2]; exact h.2 w3 e3⟩⟩
      case enter f args =>
        refine ⟨h.1, h.2.mono ?_⟩
        rintro e w'' ⟨u, he, hx, hk⟩
        exact ⟨u, he, hx, fun w3 e3 => ⟨keep a w3 (hy.later (((h.1.trans hx).trans (e3.toB K)).sub hSK)) u, by rw [← Act.put_comm a v u h2]; exact hk w3 e3⟩⟩
  · rename_i hw
    simp only [hw] at h
    exact fun w3 e3 => ⟨keep a w3 (hy.later (e3.toB S)) _, by rw [← Act.put_comm a v undef h2]; exact h w3 e3⟩
def wpY (P : Program) (B : Nat → Nat → Prop) (md : Region.Mode) (ops : Array Oper) (n : Nat) (L : Array Bool → Act → World → Prop) : Nat → Array Bool → Act → World → Prop
  | 0, listed, a, w => L listed a w
  | f + 1, listed, a, w => Region.ready md ops listed ≠ [] ∧ ∀ i ∈ Region.ready md ops listed, i < n ∧ opX P (B i) ops i (wpY P B md ops n L f (listed.setIfInBounds i true)) a w
theorem wpAny_of_wpY {n g : Nat} {L : Array Bool → Act → World → Prop} {Q : Exit → Act → World → Prop} (hL : ∀ listed a w, L listed a w → wpAny P md ops Q g listed a w) :
    ∀ (f : Nat) (listed : Array Bool) (a : Act) (w : World), wpY P B md ops n L f listed a w → wpAny P md ops Q (f + g) listed a w
  | 0, listed, a, w, h => by rw [Nat.zero_add]; exact hL _ _ _ h
  | f + 1, listed, a, w, h => by
    rw [show f + 1 + g = (f + g) + 1 by omega]
    exact ⟨fun h0 => absurd h0 h.1, fun i hi => wpOp_mono (fun a' w' h' => wpAny_of_wpY hL f _ a' w' h') (wpOp_of_opX (h.2 i hi).2)⟩
theorem opX_close2 {K : Nat → Prop} {i : Nat} {Q : Act → World → Prop} {a : Act} {w : World} (h : opX P K ops i Q a w) : opX P K ops i (fun a' w' => ∀ w3, Ext w' w3 → Q a' w3) a w := by
  unfold opX at *
  split
  · rename_i ho; simp only [ho] at h
  · rename_i o ho
    simp only [ho] at h
    split
    · rename_i hw
      simp only [hw, if_true] at h
      unfold extX at *
      generalize (execOp a.eval o).run P w = r at *
      cases r with
      | halt x w' => exact h
      | ok n w' =>
        cases n <;> simp only [uponX] at h ⊢
        case value v => exact ⟨h.1, fun w3 h3 w4 h4 => h.2 w4 (h3.trans h4)⟩
        case skip => exact ⟨h.1, fun w3 h3 w4 h4 => h.2 w4 (h3.trans h4)⟩
        case enter f args =>
          refine ⟨h.1, h.2.mono ?_⟩
          rintro e w'' ⟨v, he, hx, hk⟩
          exact ⟨v, he, hx, fun w3 h3 w4 h4 => hk w4 (h3.trans h4)⟩
    · rename_i hw
      simp only [hw] at h
      exact fun w3 h3 w4 h4 => h w4 (h3.trans h4)
theorem opX_stays {S K : Nat → Prop} {i : Nat} {o : Oper} {v : Value} {a : Act} {w : World} (hi : ops[i]? = some o) (hy : Stays P S ops o v a w) {Q : Act → World → Prop}
    (h : ∀ w2, Ext w w2 → Q (a.put o.dst v) w2) : opX P K ops i Q a w := by
  unfold Vm.opX
  simp only [hi]
  rcases hy with ⟨hw, hv⟩ | ⟨hw, rfl⟩
  · simp only [hw, if_true]
    have h1 := hv w (ExtB.refl S w)
    unfold extX
    generalize (execOp a.eval o).run P w = r at *
    cases r with
    | halt x w' => exact h1
    | ok n w' =>
      cases n <;> simp only [uponV] at h1 <;> simp only [uponX]
      case value u => obtain ⟨rfl, he⟩ := h1; exact ⟨he.toB K, fun w3 h3 => h w3 (he.trans h3)⟩
      case skip => obtain ⟨rfl, he⟩ := h1; exact ⟨he.toB K, fun w3 h3 => h w3 (he.trans h3)⟩
      case enter f args =>
        refine ⟨h1.1.toB K, h1.2.mono ?_⟩
        rintro e w'' ⟨rfl, hx⟩
        exact ⟨v, rfl, hx.toB K, fun w3 h3 => h w3 ((h1.1.trans hx).trans h3)⟩
  · simp only [hw, Bool.false_eq_true, if_false]; exact h
theorem wpY_first {n i : Nat} {oi : Oper} {v : Value} {S : Nat → Prop} {L : Array Bool → Act → World → Prop} (hS : ∀ j, Free md ops i j → ∀ b, S b → B j b) (hi : ops[i]? = some oi) (hsel : ∀ (j : Nat) (o : Oper) cs b, ops[j]? = some o → o.op ≠ .select cs b)
    (ht : ∀ listed, HeadInv md ops n listed → ∀ i, i < n → listed.getD i true = false → ∀ j ∈ Region.ready md ops listed, j < n) (hin : i < n)
    (hdone : ∀ listed a w, L listed a w → ∀ j ∈ Region.ready md ops listed, n ≤ j) :
    ∀ (f : Nat) (listed : Array Bool) (a : Act) (w : World), HeadInv md ops n listed →
      (∀ j oj, ops[j]? = some oj → j ≠ i → listed.getD j true = false → (∀ e ∈ oj.after, Region.binds md e = true → e.on ≠ i) → oi.apart ops oj = true) →
      i ∈ Region.ready md ops listed → Stays P S ops oi v a w →
      (∀ w2, Ext w w2 → wpY P B md ops n L f (listed.setIfInBounds i true) (a.put oi.dst v) w2) → wpY P B md ops n L (f + 1) listed a w := by
  intro f
  induction f with
  | zero =>
    intro listed a w inv _ hr hy H
    have hun := (mem_ready.1 hr).1
    refine ⟨fun h => (by rw [h] at hr; cases hr), fun j hj => ?_⟩
    have hjn : j < n := ht listed inv i hin hun j hj
    refine ⟨hjn, ?_⟩
    by_cases hji : j = i
    · subst hji; exact opX_stays hi hy H
    · have := hdone _ _ _ (H w (Ext.refl _)) j (ready_mono hj hji)
      omega
  | succ f ih =>
    intro listed a w inv hfree hr hy H
    have hun := (mem_ready.1 hr).1
    refine ⟨fun h => (by rw [h] at hr; cases hr), fun j hj => ?_⟩
    have hjn : j < n := ht listed inv i hin hun j hj
    refine ⟨hjn, ?_⟩
    by_cases hji : j = i
    · subst hji; exact opX_stays hi hy H
    · have h1 := ((H w (Ext.refl _)).2 j (ready_mono hj hji)).2
      obtain ⟨hjun, oj, hoj, hall⟩ := mem_ready.1 hj
      have hnot : ∀ e ∈ oj.after, Region.binds md e = true → e.on ≠ i := fun e he hb heq => by
        have h1 := hall e he hb
        rw [heq, getD_both hun] at h1
        cases h1
      have hfree' : ∀ k ok, ops[k]? = some ok → k ≠ i → (listed.setIfInBounds j true).getD k true = false →
          (∀ e ∈ ok.after, Region.binds md e = true → e.on ≠ i) → oi.apart ops ok = true := fun k ok hk hki hunk hno => by
        refine hfree k ok hk hki ?_ hno
        by_cases hjk : j = k
        · subst hjk; exact hjun
        · rw [getD_set_ne true hjk] at hunk; exact hunk
      have h2 := opX_put2 (hS j ⟨hji, listed, inv.closed, getD_both hun, oj, hoj, fun e he hb => hall e he hb⟩) hoj (hfree j oj hoj hji hjun hnot) (fun cs b => hsel i oi cs b hi) (fun cs b => hsel j oj cs b hoj) hy (opX_close2 h1)
      refine opX_mono (fun a' w' hx h3 => ih (listed.setIfInBounds j true) a' w' (inv.set hj hjn) hfree' (ready_mono hr (Ne.symm hji)) h3.1 ?_) h2
      intro w2 hw2
      rw [Array.setIfInBounds_comm _ _ hji]
      exact h3.2 w2 hw2
def wpT2 (P : Program) (B : Nat → Nat → Prop) (md : Region.Mode) (ops : Array Oper) (L : Act → World → Prop) : Tree → Act → World → Prop
  | .leaf, a, w => L a w
  | .q i t, a, w => match ops[i]? with
    | none => False
    | some o => ∃ v S, (∀ j, Free md ops i j → ∀ b, S b → B j b) ∧ Stays P S ops o v a w ∧ ∀ w2, Ext w w2 → wpT2 P B md ops L t (a.put o.dst v) w2
  | .i1 i t, a, w => opX P (B i) ops i (wpT2 P B md ops L t) a w
  | .i2 i s j t, a, w => opX P (B i) ops i (wpT2 P B md ops L s) a w ∧ opX P (B j) ops j (wpT2 P B md ops L t) a w
  | .i3 i s j t k u, a, w => opX P (B i) ops i (wpT2 P B md ops L s) a w ∧ opX P (B j) ops j (wpT2 P B md ops L t) a w ∧ opX P (B k) ops k (wpT2 P B md ops L u) a w
theorem wpY_of_wpT2 {n : Nat} {L : Act → World → Prop} (hsel : Region.noSelect ops = true) (ht : ∀ listed, HeadInv md ops n listed → ∀ i, i < n → listed.getD i true = false → ∀ j ∈ Region.ready md ops listed, j < n) :
    ∀ (f : Nat) (t : Tree) (listed : Array Bool) (a : Act) (w : World), HeadInv md ops n listed → treeB md ops n f t listed = true → wpT2 P B md ops L t a w →
      wpY P B md ops n (fun listed' a' w' => Region.seqB md ops (ops.size - n) n listed' = true ∧ L a' w') f listed a w := by
  intro f
  induction f with
  | zero =>
    intro t listed a w _ hB h
    cases t with
    | leaf => exact ⟨hB, h⟩
    | _ => simp [treeB] at hB
  | succ f ih =>
    intro t listed a w inv hB h
    have go : ∀ (r : List Nat), Region.ready md ops listed = r → r ≠ [] → (∀ i ∈ r, i < n ∧ opX P (B i) ops i (wpY P B md ops n (fun listed' a' w' => Region.seqB md ops (ops.size - n) n listed' = true ∧ L a' w') f (listed.setIfInBounds i true)) a w) →
        wpY P B md ops n (fun listed' a' w' => Region.seqB md ops (ops.size - n) n listed' = true ∧ L a' w') (f + 1) listed a w := fun r hr hne H =>
      ⟨fun h0 => hne (hr ▸ h0), fun j hj => H j (hr ▸ hj)⟩
    cases t with
    | leaf => simp [treeB] at hB
    | q i t =>
      simp only [treeB, Bool.and_eq_true, decide_eq_true_eq] at hB
      obtain ⟨⟨⟨hin, hr⟩, hk⟩, hB'⟩ := hB
      have hr' : i ∈ Region.ready md ops listed := by simpa using hr
      unfold wpT2 at h
      cases ho : ops[i]? with
      | none => simp [ho] at h
      | some o =>
        simp only [ho] at h
        obtain ⟨v, S, hS, hy, hK⟩ := h
        exact wpY_first hS ho (Region.noSelect_spec hsel) ht hin (fun listed' a' w' hL => seqB_ready hL.1) f listed a w inv (Region.free_spec ho hk) hr' hy
          (fun w2 h2 => ih t _ _ w2 (inv.set hr' hin) hB' (hK w2 h2))
    | i1 i t =>
      simp only [treeB, Bool.and_eq_true, decide_eq_true_eq] at hB
      obtain ⟨⟨hin, hr⟩, hB'⟩ := hB
      refine go _ hr (by simp) (fun j hj => ?_)
      have : j = i := by simpa using hj
      subst this
      exact ⟨hin, opX_mono (fun a' w' _ h' => ih t _ a' w' (inv.set (by rw [hr]; simp) hin) hB' h') h⟩
    | i2 i s j t =>
      simp only [treeB, Bool.and_eq_true, decide_eq_true_eq] at hB
      obtain ⟨⟨⟨⟨hin, hjn⟩, hr⟩, hB1⟩, hB2⟩ := hB
      refine go _ hr (by simp) (fun m hm => ?_)
      simp only [List.mem_cons, List.not_mem_nil, or_false] at hm
      rcases hm with rfl | rfl
      · exact ⟨hin, opX_mono (fun a' w' _ h' => ih s _ a' w' (inv.set (by rw [hr]; simp) hin) hB1 h') h.1⟩
      · exact ⟨hjn, opX_mono (fun a' w' _ h' => ih t _ a' w' (inv.set (by rw [hr]; simp) hjn) hB2 h') h.2⟩
    | i3 i s j t k u =>
      simp only [treeB, Bool.and_eq_true, decide_eq_true_eq] at hB
      obtain ⟨⟨⟨⟨⟨⟨hin, hjn⟩, hkn⟩, hr⟩, hB1⟩, hB2⟩, hB3⟩ := hB
      refine go _ hr (by simp) (fun m hm => ?_)
      simp only [List.mem_cons, List.not_mem_nil, or_false] at hm
      rcases hm with rfl | rfl | rfl
      · exact ⟨hin, opX_mono (fun a' w' _ h' => ih s _ a' w' (inv.set (by rw [hr]; simp) hin) hB1 h') h.1⟩
      · exact ⟨hjn, opX_mono (fun a' w' _ h' => ih t _ a' w' (inv.set (by rw [hr]; simp) hjn) hB2 h') h.2.1⟩
      · exact ⟨hkn, opX_mono (fun a' w' _ h' => ih u _ a' w' (inv.set (by rw [hr]; simp) hkn) hB3 h') h.2.2⟩
/-- the head and its tree; or all of the region is the head -/
def regT2 (ops : Array Oper) (n : Nat) (t : Tree) : Bool :=
  Region.noSelect ops && ((decide (n < ops.size) && Region.sinkB .any ops n && Region.chainB .any ops n) || decide (n = ops.size)) && treeB .any ops n n t (Array.replicate ops.size false)
theorem wp_region_tree2 {id : Nat} {Q : Exit → Act → World → Prop} {a : Act} {w : World} (B : Nat → Nat → Prop) (n : Nat) (t : Tree) (hm : P.follows .mixedOrders = true) (hB : regT2 ops n t = true)
    (h : wpT2 P B .any ops (fun a' w' => wpList P ops Q (ops.toList.drop n) a' w') t a { w with drawn := w.drawn + 1 }) : (Code.region id ops true).wp P Q a w := by
  simp only [regT2, Bool.and_eq_true, Bool.or_eq_true, decide_eq_true_eq] at hB
  obtain ⟨⟨hsel, hor⟩, hh⟩ := hB
  have hle : n ≤ ops.size := by rcases hor with h | h <;> omega
  have ht : ∀ listed, HeadInv .any ops n listed → ∀ i, i < n → listed.getD i true = false → ∀ j ∈ Region.ready .any ops listed, j < n := fun listed inv i hin hun j hj => by
    rcases hor with ⟨⟨hn, hs⟩, hc⟩ | hn
    · rcases Nat.lt_or_ge j n with h | h
      · exact h
      · exact absurd hj (tail_waits hs hc hn inv _ i rfl hin hun j h)
    · obtain ⟨_, oj, hoj, _⟩ := mem_ready.1 hj
      rw [hn]
      exact (Array.getElem?_eq_some_iff.1 hoj).1
  have inv0 : HeadInv .any ops n (Array.replicate ops.size false) :=
    ⟨by simp, fun j oj _ hl => (by rw [getD_replicate_false] at hl; cases hl), fun t _ ht => getD_in (by simpa using ht) (getD_replicate_false _ _)⟩
  refine wp_region_any hm ?_
  have h1 := wpY_of_wpT2 hsel ht n t _ a _ inv0 hh h
  have h2 := wpAny_of_wpY (g := ops.size - n) (Q := Q) (fun listed a' w' hL =>
    have hl : (ops.toList.drop n).length = ops.size - n := by simp
    hl ▸ wpAny_of_seq (ops.toList.drop n) n listed a' w' (by simp) (by rw [hl]; exact hL.1) hL.2) n _ a _ h1
  rwa [Nat.add_sub_cancel' hle] at h2
end
/-! ### over frames -/
/-- U: the blocks that are as they were at the region's beginning -/
def evL (P : Program) (all : List Oper) (B : Nat → Nat → Prop) (h0 : Heap) (L : Fr → Heap → Prop) : Tree → (Nat → Prop) → Fr → Heap → Prop
  | .leaf, _, fr, h => ∀ h', ExtH h h' → L fr h'
  | .q i t, U, fr, h => match all[i]? with
    | none => False
    | some o => gk all o fr (∃ v S, (∀ j, Free .any all.toArray i j → ∀ b, S b → B j b) ∧ (∀ b, S b → U b) ∧ (∀ h1, ExtP S h0 h1 → opqc P o fr h1 fun u => u = v) ∧ evL P all B h0 L t U (put fr o.dst v) h) (evL P all B h0 L t U (put fr o.dst undef) h)
  | .i1 i t, U, fr, h => evKI P all (B i) (evL P all B h0 L t fun b => U b ∧ B i b) i fr h
  | .i2 i s j t, U, fr, h => evKI P all (B i) (evL P all B h0 L s fun b => U b ∧ B i b) i fr h ∧ evKI P all (B j) (evL P all B h0 L t fun b => U b ∧ B j b) j fr h
  | .i3 i s j t k u, U, fr, h => evKI P all (B i) (evL P all B h0 L s fun b => U b ∧ B i b) i fr h ∧ evKI P all (B j) (evL P all B h0 L t fun b => U b ∧ B j b) j fr h ∧ evKI P all (B k) (evL P all B h0 L u fun b => U b ∧ B k b) k fr h
theorem ExtP.sub {S K : Nat → Prop} {h h' : Heap} (e : ExtP K h h') (hS : ∀ b, S b → K b) : ExtP S h h' := ⟨e.size, fun b hb => e.block b (hS b hb)⟩
theorem evLI_sound {P : Program} {n : Nat} {all : List Oper} {K U : Nat → Prop} {h0 : Heap} {k : Fr → Heap → Prop} {K' : Act → World → Prop} (hd : ∀ o ∈ all, dok n o.dst) (w0 : World) {i : Nat} {fr : Fr} {h : Heap} {a : Act} {w : World}
    (hK : ∀ fr h a w, k fr h → Hold ds n fr a → h = w.heap → ExtP (fun b => U b ∧ K b) h0 w.heap → SameEnv w0 w → K' a w) (H : evKI P all K k i fr h) (hF : Hold ds n fr a) (hw : ExtH h w.heap) (hw0 : ExtP U h0 w.heap) (hs : SameEnv w0 w) : opX P K all.toArray i K' a w := by
  unfold evKI at H
  cases ho : all[i]? with
  | none => simp [ho] at H
  | some o =>
    simp only [ho] at H
    have hdo : dok n o.dst := hd o (List.mem_of_getElem? ho)
    have ho' : all.toArray[i]? = some o := by simpa using ho
    unfold opX
    simp only [ho']
    rcases gk_elim H hF with ⟨hg, H⟩ | ⟨hg, H⟩
    · rw [if_pos hg]
      refine extX_of_comes (k := fun v h3 => ExtP (fun b => U b ∧ K b) h0 h3 ∧ k (put fr o.dst v) h3) ?_ fun v w' hs' hk => ?_
      · exact (opx_sound hF (H w.heap hw) rfl).mono fun v h2 hk => ⟨hk.1, fun h3 h23 => ⟨((hw0.sub fun b hb => hb.1).trans (hk.1.sub fun b hb => hb.2)).trans (h23.toP _), hk.2 h3 h23⟩⟩
      · exact hK _ _ _ w' hk.2 (hF.put _ _ hdo) rfl hk.1 (hs.trans hs')
    · rw [if_neg (by simp [hg])]
      exact fun w3 h3 => hK _ _ _ w3 (H w3.heap (hw.trans h3.heap)) (hF.put _ _ hdo) rfl ((hw0.sub fun b hb => hb.1).trans (h3.heap.toP _)) (hs.trans h3.env)
theorem evL_sound {P : Program} {n : Nat} {all : List Oper} {B : Nat → Nat → Prop} {h0 : Heap} {L : Fr → Heap → Prop} {L' : Act → World → Prop} (hd : ∀ o ∈ all, dok n o.dst) (w0 : World) (hL : ∀ fr a w, Hold ds n fr a → SameEnv w0 w → L fr w.heap → L' a w) :
    ∀ (t : Tree) (U : Nat → Prop) (fr : Fr) (h : Heap) (a : Act) (w : World), evL P all B h0 L t U fr h → Hold ds n fr a → ExtH h w.heap → ExtP U h0 w.heap → SameEnv w0 w → wpT2 P B .any all.toArray L' t a w
  | .leaf, U, fr, h, a, w, H, hF, hw, _, hs => hL fr a w hF hs (H _ hw)
  | .q i t, U, fr, h, a, w, H, hF, hw, hw0, hs => by
    unfold evL at H
    unfold wpT2
    cases ho : all[i]? with
    | none => simp [ho] at H
    | some o =>
      simp only [ho] at H
      have hdo : dok n o.dst := hd o (List.mem_of_getElem? ho)
      have ho' : all.toArray[i]? = some o := by simpa using ho
      simp only [ho']
      rcases gk_elim H hF with ⟨hg, H⟩ | ⟨hg, H⟩
      · obtain ⟨v, S, hS, hSU, hv, hk⟩ := H
        refine ⟨v, S, hS, .inl ⟨hg, fun w1 e => ?_⟩, fun w2 h2 => evL_sound hd w0 hL t U _ _ _ w2 hk (hF.put _ _ hdo) (hw.trans h2.heap) (hw0.trans (h2.heap.toP U)) (hs.trans h2.env)⟩
        obtain ⟨u, rfl, hu⟩ := opqc_sound hF (hv w1.heap ((hw0.sub hSU).trans e.heap)) (ExtH.refl _)
        exact hu w1 (ExtB.refl _ _)
      · exact ⟨undef, fun _ => False, fun _ _ _ h => h.elim, .inr ⟨hg, rfl⟩, fun w2 h2 => evL_sound hd w0 hL t U _ _ _ w2 H (hF.put _ _ hdo) (hw.trans h2.heap) (hw0.trans (h2.heap.toP U)) (hs.trans h2.env)⟩
  | .i1 i t, U, fr, h, a, w, H, hF, hw, hw0, hs =>
    evLI_sound hd w0 (fun fr h a w hk hF e h0w hs => evL_sound hd w0 hL t _ fr h a w hk hF (e ▸ ExtH.refl _) h0w hs) H hF hw hw0 hs
  | .i2 i s j t, U, fr, h, a, w, H, hF, hw, hw0, hs =>
    ⟨evLI_sound hd w0 (fun fr h a w hk hF e h0w hs => evL_sound hd w0 hL s _ fr h a w hk hF (e ▸ ExtH.refl _) h0w hs) H.1 hF hw hw0 hs,
     evLI_sound hd w0 (fun fr h a w hk hF e h0w hs => evL_sound hd w0 hL t _ fr h a w hk hF (e ▸ ExtH.refl _) h0w hs) H.2 hF hw hw0 hs⟩
  | .i3 i s j t k u, U, fr, h, a, w, H, hF, hw, hw0, hs =>
    ⟨evLI_sound hd w0 (fun fr h a w hk hF e h0w hs => evL_sound hd w0 hL s _ fr h a w hk hF (e ▸ ExtH.refl _) h0w hs) H.1 hF hw hw0 hs,
     evLI_sound hd w0 (fun fr h a w hk hF e h0w hs => evL_sound hd w0 hL t _ fr h a w hk hF (e ▸ ExtH.refl _) h0w hs) H.2.1 hF hw hw0 hs,
     evLI_sound hd w0 (fun fr h a w hk hF e h0w hs => evL_sound hd w0 hL u _ fr h a w hk hF (e ▸ ExtH.refl _) h0w hs) H.2.2 hF hw hw0 hs⟩
theorem cw_turns {P : Program} {n : Nat} {Q : Exit → Fr → Heap → Prop} {fr : Fr} {h : Heap} {id : Nat} {ops : Array Oper} (hm : P.follows .mixedOrders = true) (m : Nat) (B : Nat → Nat → Prop) (t : Tree) (hB : regT2 ops m t = true) (hd : dstsB n ops.toList = true)
    (H : evL P ops.toList B h (fun fr h => evOps P ops.toList (ops.toList.drop m) fr h fun fr h => Q .normal fr h) t (fun _ => True) fr h) : CwD ds P n (.region id ops true) Q fr h :=
  ⟨fun w0 a w hF hs hw => by
    refine wp_region_tree2 B m t hm hB ?_
    have := evL_sound (n := n) (P := P) (all := ops.toList) (B := B) (h0 := h) (fun o ho => dok_of hd ho) w0 (L' := fun a' w' => wpList P ops (Post ds w0 n Q) (ops.toList.drop m) a' w')
      (fun fr1 a' w' hF' hs' hk => by
        have := evOps_sound (n := n) (Q := Post ds w0 n Q) (ops.toList.drop m) (fun o ho => dok_of hd (List.mem_of_mem_drop ho)) fr1 w'.heap a' w' hk hF' rfl (fun fr'' a'' w'' hF'' hs'' hk' => ⟨fr'', hF'', hs'.trans hs'', hk'⟩)
        simpa using this)
      t (fun _ => True) fr h a { w with drawn := w.drawn + 1 } H hF (hw ▸ ExtH.refl _) (hw ▸ ExtP.refl _ _) ⟨hs.os, hs.tape, hs.output⟩
    simpa using this⟩
theorem cw_iter {ds : List Deferred} {P : Program} {n : Nat} {Q : Exit → Fr → Heap → Prop} {c : Code} {I : Nat → Fr → Heap → Prop} (round : ∀ m fr h, I m fr h → CwD ds P n c (thenQ (fun fr' h' => ∃ m', m' < m ∧ I m' fr' h') Q) fr h) {m : Nat} {fr : Fr} {h : Heap} (h0 : I m fr h) : CwD ds P n (.loop c) Q fr h := by
  refine ⟨fun w0 a w hF hs hw b k cs => ?_⟩
  have key : ∀ m fr a w, Hold ds n fr a → SameEnv w0 w → I m fr w.heap →
      ∃ e a' w', Post ds w0 n Q e a' w' ∧ Arrives P (lone (b.at a (.code c :: .inLoop c :: k)) cs w) b k cs e a' w' := by
    intro m
    induction m using Nat.strongRecOn with
    | _ m ih =>
      intro fr a w hF hs hI
      obtain ⟨e, a₁, w₁, ⟨fr₁, hF₁, hs₁, hq⟩, harr⟩ := (round m fr w.heap hI).run w0 a w hF hs rfl b (.inLoop c :: k) cs
      cases e with
      | normal =>
        obtain ⟨m', hlt, hI'⟩ := hq
        obtain ⟨e₂, a₂, w₂, hq₂, harr₂⟩ := ih m' hlt fr₁ a₁ w₁ hF₁ hs₁ hI'
        exact ⟨e₂, a₂, w₂, hq₂, .of_steps (Steps.trans harr (.one step_inLoop)) harr₂⟩
      | exit id => exact ⟨_, a₁, w₁, ⟨fr₁, hF₁, hs₁, hq⟩, .pass (x := .inLoop c) rfl (fun _ _ => .inl (by simp)) harr⟩
      | goto l => exact ⟨_, a₁, w₁, ⟨fr₁, hF₁, hs₁, hq⟩, .pass (x := .inLoop c) rfl (fun _ _ => .inl (by simp)) harr⟩
      | ret => exact ⟨_, a₁, w₁, ⟨fr₁, hF₁, hs₁, hq⟩, .pass (x := .inLoop c) rfl (fun _ _ => .inl (by simp)) harr⟩
      | panic ch => exact ⟨_, a₁, w₁, ⟨fr₁, hF₁, hs₁, hq⟩, .pass (x := .inLoop c) rfl (fun _ _ => .inl (by simp)) harr⟩
      | outgrown => exact ⟨_, a₁, w₁, ⟨fr₁, hF₁, hs₁, hq⟩, .pass (x := .inLoop c) rfl (fun _ _ => .inl (by simp)) harr⟩
  obtain ⟨e, a', w', hq, harr⟩ := key m fr a w hF hs (hw ▸ h0)
  exact ⟨e, a', w', hq, .of_steps (.one step_loop) harr⟩
end Go.Proofs.YtdielfpgekenkaaGreatDoor.Vm
namespace Go.Proofs.YtdielfpgekenkaaGreatDoor.Sx
open Go Vm
set_option linter.unusedSimpArgs false
set_option linter.unusedVariables false
theorem opi_mono {P : Program} {o : Oper} {fr : Fr} {h : Heap} {k k' : Value → Heap → Prop} (hk : ∀ v h', k v h' → k' v h') (H : Vm.opi P o fr h k) : Vm.opi P o fr h k' := by
  unfold Vm.opi at H
  split at H
  · rename_i T ho
    unfold Vm.opi
    simp only [ho]
    split at H
    · rename_i inf hi
      split at H
      · rename_i z hz
        try simp only [hi, hz]
        exact fun h' n => hk _ _ (H h' n)
      · exact H.elim
    · exact H.elim
  · rename_i T x ho
    obtain ⟨v, hv, H⟩ := evk_elim H
    unfold Vm.opi
    simp only [ho, evk_of hv]
    exact fun h' n => hk _ _ (H h' n)
  · rename_i t len parts ho
    obtain ⟨vs, h1, c, e, h2, H⟩ := H
    unfold Vm.opi
    simp only [ho]
    exact ⟨vs, h1, c, e, h2, fun h' n => hk _ _ (H h' n)⟩
  · rename_i t l c ho
    obtain ⟨lv, hl, H⟩ := evk_elim H
    obtain ⟨cv, hc, H⟩ := evk_elim H
    unfold Vm.opi
    simp only [ho, evk_of hl, evk_of hc]
    split at H
    · split at H
      · rename_i e ht
        split at H
        · rename_i inf hi
          split at H
          · rename_i z hz
            try simp only [ht, hi, hz]
            exact ⟨H.1, fun h' n => hk _ _ (H.2 h' n)⟩
          · exact H.elim
        · exact H.elim
      · exact H.elim
    · exact H.elim
  · rename_i T x v ho
    obtain ⟨xv, hx, H⟩ := evk_elim H
    obtain ⟨u, hu, H⟩ := evk_elim H
    unfold Vm.opi
    simp only [ho, evk_of hx, evk_of hu]
    split at H
    · split at H
      · rename_i inf hi
        try simp only [hi]
        unfold storek at H ⊢
        split at H
        · obtain ⟨l, t, h1, h2, H⟩ := H
          exact ⟨l, t, h1, h2, fun h' n => hk _ _ (H h' n)⟩
        · exact H.elim
        · split at H
          · rename_i hs
            obtain ⟨l, t, h1, h2, H⟩ := H
            simp only [hs, if_true]
            exact ⟨l, t, h1, h2, fun h' n => hk _ _ (H h' n)⟩
          · exact H.elim
      · exact H.elim
    · exact H.elim
  · rename_i s t x ho
    obtain ⟨v, hv, R, hR, H⟩ := evk_elim H
    unfold Vm.opi
    simp only [ho, evk_of hv]
    exact ⟨R, hR, fun u h' hr => hk _ _ (H u h' hr)⟩
  · rename_i c ho
    unfold Vm.opi
    simp only [ho]
    split at H
    · rename_i f hc
      obtain ⟨fv, hf, H⟩ := evk_elim H
      try simp only [hc]
      try simp only [evk_of hf]
      split at H
      · obtain ⟨vs, h1, R, h2, H⟩ := H
        exact ⟨vs, h1, R, h2, fun v h' hr => hk _ _ (H v h' hr)⟩
      · exact H.elim
    · rename_i b hc
      obtain ⟨vs, h1, R, h2, H⟩ := H
      try simp only [hc]
      exact ⟨vs, h1, R, h2, fun v h' hr => hk _ _ (H v h' hr)⟩
    · exact H.elim
  · rename_i t ho
    unfold Vm.opi
    simp only [ho]
    exact fun h' n => hk _ _ (H h' n)
  · rename_i t m x y ho
    obtain ⟨mv, hm, H⟩ := evk_elim H
    obtain ⟨xv, hx, H⟩ := evk_elim H
    obtain ⟨yv, hy, R, hR, H⟩ := evk_elim H
    unfold Vm.opi
    simp only [ho, evk_of hm, evk_of hx, evk_of hy]
    exact ⟨R, hR, fun h' hr => hk _ _ (H h' hr)⟩
  · rename_i t m x y ho
    obtain ⟨mv, hm, H⟩ := evk_elim H
    obtain ⟨xv, hx, H⟩ := evk_elim H
    obtain ⟨yv, hy, R, hR, H⟩ := evk_elim H
    unfold Vm.opi
    simp only [ho, evk_of hm, evk_of hx, evk_of hy]
    exact ⟨R, hR, fun h' hr => hk _ _ (H h' hr)⟩
  · exact H.elim
section
variable {C : Cx} (hC : CxOk C) {st : St} {σ : Env} {h : Heap} {sf : SF} {fr : Fr} {β : Type} {r : β}
theorem quiet_eq (hC : CxOk C) (o : Oper) : C.quietOp o = Vm.quietOp C.P o := by
  unfold Cx.quietOp Vm.quietOp
  simp only [hC.und]
  cases o.op <;> rfl
theorem intQ_eq (C : Cx) (op : BinOp) (t : Nat) (xo yo : Operand) (a b : IntKind) (x y : Int) : intQ op a b x y = C.binS op t xo yo (.i a x) (.i b y) := by
  cases op <;> rfl
theorem natQ_eq (C : Cx) (op : BinOp) (t : Nat) (xo yo : Operand) (x y : Nat) : natQ op x y = C.binS op t xo yo (.i .i64 (.ofNat x)) (.i .i64 (.ofNat y)) := by
  rw [← intQ_eq]
  cases op <;> simp only [natQ]
  case add =>
    split
    · rename_i h
      rw [Nat.blt_eq] at h
      have h : x + y < 9223372036854775808 := h
      simp only [intQ, intS, if_true]
      congr 2
      rw [IntKind.wrap_i64]
      simp only [Int.ofNat_eq_natCast, Nat.add_eq, Int.natCast_add]
      omega
    · rfl
  case sub =>
    split
    · rename_i h
      rw [Bool.and_eq_true, Nat.ble_eq, Nat.blt_eq] at h
      simp only [intQ, intS, if_true]
      congr 2
      rw [IntKind.wrap_i64]
      simp only [Int.ofNat_eq_natCast, Nat.sub_eq]
      omega
    · rfl
  all_goals first | rfl | (simp only [intQ, intS, if_true, b2]; congr 2; first
    | (rw [Bool.eq_iff_iff]; simp only [Nat.beq_eq, Nat.blt_eq, Nat.ble_eq, decide_eq_true_eq, Int.ofNat_eq_natCast]; omega)
    | (rw [Bool.eq_iff_iff]; simp only [Bool.not_eq_true', ← Bool.not_eq_true, Nat.beq_eq, decide_eq_true_eq, Int.ofNat_eq_natCast]; omega))
theorem byteQ_eq (C : Cx) (op : BinOp) (t : Nat) (xo yo : Operand) (x y : Nat) : byteQ op x y = C.binS op t xo yo (.i .u8 (.ofNat x)) (.i .u8 (.ofNat y)) := by
  rw [← intQ_eq]
  cases op <;> simp only [byteQ]
  all_goals first | rfl | (simp only [intQ, intS, if_true, b2]; congr 2; first
    | (rw [Bool.eq_iff_iff]; simp only [Nat.beq_eq, Nat.blt_eq, Nat.ble_eq, decide_eq_true_eq, Int.ofNat_eq_natCast]; omega)
    | (rw [Bool.eq_iff_iff]; simp only [Bool.not_eq_true', ← Bool.not_eq_true, Nat.beq_eq, decide_eq_true_eq, Int.ofNat_eq_natCast]; omega))
theorem binQ_eq (C : Cx) (op : BinOp) (t : Nat) (xo yo : Operand) (x y : SV) : C.binQ op t xo yo x y = C.binS op t xo yo x y := by
  unfold Cx.binQ
  split
  · split
    · exact natQ_eq C op t xo yo _ _
    · rfl
  · split
    · exact byteQ_eq C op t xo yo _ _
    · rfl
  · rfl
theorem opqQ_eq (C : Cx) (o : Oper) (fr : SF) (st : St) : C.opqQ o fr st = C.opq o fr st := by
  obtain ⟨d, op, t, p, a, g⟩ := o
  cases op <;> first | rfl | skip
  case binOp op t x y u =>
    show C.qBin fr op t x y = _
    unfold Cx.qBin
    simp only [binQ_eq]
    rfl
theorem opiQ_eq {β : Type} (C : Cx) (call : Nat → List SV → St → Option (SV × St)) (o : Oper) (fr : SF) (st : St) (k : SV → St → Option β) : C.opiQ call o fr st k = C.opi call o fr st k := by
  obtain ⟨d, op, t, p, a, g⟩ := o
  cases op <;> first | rfl | skip
  case call c =>
    unfold Cx.opiQ Cx.opi
    simp only
    obtain ⟨ca, cb, cc⟩ := c
    cases ca <;> first | rfl | skip
    rename_i b
    cases b <;> rfl
include hC in
theorem opx_ok {call : Nat → List SV → St → Option (SV × St)} (hcall : CallOk C call) (hF : Frm σ sf fr) (H : Rep C.ng st σ h) {o : Oper} {k : SV → St → Option β} (e : C.opx call o sf st k = some r) {K : Value → Heap → Prop}
    (hK : ∀ s st' σ' v h', k s st' = some r → den σ' s = some v → Goes C.ng st σ h st' σ' h' → K v h') : Vm.opx C.P o fr h K := by
  unfold Cx.opx at e
  unfold Vm.opx
  rw [← quiet_eq hC]
  split at e
  · rename_i hq
    simp only [opqQ_eq, Option.bind_eq_some_iff] at e
    obtain ⟨s, hs, e⟩ := e
    obtain ⟨v, h1, h2⟩ := opq_ok hC hF (H.obs (Pre.refl _)) hs
    simp only [hq]
    exact h2 _ (hK s st σ v h e h1 (Goes.refl H))
  · rename_i hq
    rw [opiQ_eq] at e
    simp only [hq]
    exact opi_mono (fun v h' ⟨s, st', σ', h1, h2, h3⟩ => hK s st' σ' v h' h1 h2 h3) (opi_ok hC hcall hF H e)
theorem gk_ok (hF : Frm σ sf fr) {all : List Oper} {o : Oper} {A B : Option β} (e : gkS all o sf A B = some r) {A' B' : Prop} (hA : A = some r → A') (hB : B = some r → B') : gk all o fr A' B' := by
  unfold gkS at e
  unfold gk
  split at e
  · rename_i hg; simp only [hg]; exact hA e
  · rename_i j want hg
    simp only [Option.bind_eq_some_iff] at e
    obtain ⟨d, ⟨oj, hoj, hd⟩, v, hv, e⟩ := e
    obtain ⟨u, h1, h2⟩ := hF.rel d v hv
    have hd' : (all[j]?).bind (·.dst) = some d := by rw [hoj]; exact hd
    simp only [hg, hd', h2]
    split at e
    · rw [den_b h1]
      split at e
      · exact hA e
      · exact hA e
      · exact hB e
      · exact hB e
    · obtain ⟨vs, _, rfl⟩ := den_tup h1
      exact hB e
    · cases e
theorem Frm.put (hF : Frm σ sf fr) {d : Option Nat} {s : SV} {v : Value} (hv : den σ s = some v) {k : SF → Option β} (e : putS sf d s k = some r) : ∃ sf', k sf' = some r ∧ Frm σ sf' (Vm.put fr d v) := by
  obtain ⟨sf', h1, h2, h3⟩ := hF.rel.put hv e
  exact ⟨sf', h1, h2, fun g hg => hF.glob g (h3 ▸ hg)⟩
theorem Frm.mono {τ : Env} (hF : Frm σ sf fr) (h : Pre σ τ) : Frm τ sf fr := ⟨hF.rel.mono h, fun g hg => by obtain ⟨c, hc⟩ := hF.glob g hg; exact ⟨c, h _ _ hc⟩⟩
theorem den_undef (σ : Env) : den σ undefS = some undef := rfl
include hC in
theorem ops_ok {call : Nat → List SV → St → Option (SV × St)} (hcall : CallOk C call) {all : List Oper} : ∀ (l : List Oper) (sf : SF) (st : St) (σ : Env) (fr : Fr) (h : Heap) (k : SF → St → Option β), C.ops call all l sf st k = some r → Frm σ sf fr → Rep C.ng st σ h →
    ∀ K : Fr → Heap → Prop, (∀ sf' st' σ' fr' h', k sf' st' = some r → Frm σ' sf' fr' → Goes C.ng st σ h st' σ' h' → K fr' h') → Vm.evOps C.P all l fr h K
  | [], sf, st, σ, fr, h, k, e, hF, H, K, hK => hK sf st σ fr h e hF (Goes.refl H)
  | o :: l, sf, st, σ, fr, h, k, e, hF, H, K, hK => by
    unfold Cx.ops at e
    unfold Vm.evOps
    refine gk_ok hF e (fun e => ?_) (fun e => ?_)
    · refine opx_ok hC hcall hF H e fun s st' σ' v h' e hv hG => ?_
      obtain ⟨sf', e, hF'⟩ := (hF.mono hG.pre).put hv e
      exact ops_ok hcall l sf' st' σ' _ h' k e hF' hG.rep K fun sf2 st2 σ2 fr2 h2 e2 hF2 hG2 => hK sf2 st2 σ2 fr2 h2 e2 hF2 (hG.trans hG2)
    · obtain ⟨sf', e, hF'⟩ := hF.put (den_undef σ) e
      exact ops_ok hcall l sf' st σ _ h k e hF' H K hK
/-! ### sameness -/
theorem eqNs_eq : ∀ (x y : List Nat), eqNs x y = true → x = y
  | [], [], _ => rfl
  | [], _ :: _, h => by simp [eqNs] at h
  | _ :: _, [], h => by simp [eqNs] at h
  | a :: x, b :: y, h => by
    simp only [eqNs] at h
    split at h
    · rename_i e; rw [e, eqNs_eq x y h]
    · cases h
mutual
theorem eqV_ok : ∀ (a b : SV), eqV a b = true → a = b
  | .b x, b, h => by cases b <;> simp [eqV] at h; rw [h]
  | .i k n, b, h => by cases b <;> simp [eqV] at h; rw [h.1, h.2]
  | .s l, b, h => by cases b <;> simp [eqV] at h; rw [eqNs_eq _ _ h]
  | .p _ _, b, h => by cases b <;> simp [eqV] at h; rw [h.1, h.2]
  | .pn, b, h => by cases b <;> simp [eqV] at h; rfl
  | .sl _ _ _ _, b, h => by cases b <;> simp [eqV] at h; obtain ⟨⟨⟨rfl, rfl⟩, rfl⟩, rfl⟩ := h; rfl
  | .sg _ _ _ _, b, h => by cases b <;> simp [eqV] at h; obtain ⟨⟨⟨rfl, rfl⟩, rfl⟩, rfl⟩ := h; rfl
  | .se _ _ _ _ _, b, h => by cases b <;> simp [eqV] at h; obtain ⟨⟨⟨⟨rfl, rfl⟩, rfl⟩, rfl⟩, rfl⟩ := h; rfl
  | .sn, b, h => by cases b <;> simp [eqV] at h; rfl
  | .m _, b, h => by cases b <;> simp [eqV] at h; rw [h]
  | .mn, b, h => by cases b <;> simp [eqV] at h; rfl
  | .f g a c, b, h => by
    cases b <;> simp [eqV] at h
    rw [h.1.1, eqVs_ok _ _ h.1.2, eqVs_ok _ _ h.2]
  | .nf, b, h => by cases b <;> simp [eqV] at h; rfl
  | .ifc t v, b, h => by
    cases b <;> simp [eqV] at h
    rw [h.1, eqV_ok _ _ h.2]
  | .nifc, b, h => by cases b <;> simp [eqV] at h; rfl
  | .agg l, b, h => by cases b <;> simp [eqV] at h; rw [eqVs_ok _ _ h]
  | .tup l, b, h => by cases b <;> simp [eqV] at h; rw [eqVs_ok _ _ h]
theorem eqVs_ok : ∀ (a b : List SV), eqVs a b = true → a = b
  | [], [], _ => rfl
  | [], _ :: _, h => by simp [eqVs] at h
  | _ :: _, [], h => by simp [eqVs] at h
  | a :: l, b :: m, h => by
    simp only [eqVs, Bool.and_eq_true] at h
    rw [eqV_ok _ _ h.1, eqVs_ok _ _ h.2]
end
theorem eqPs_ok : ∀ (a b : List (SV × SV)), eqPs a b = true → a = b
  | [], [], _ => rfl
  | [], _ :: _, h => by simp [eqPs] at h
  | _ :: _, [], h => by simp [eqPs] at h
  | a :: l, b :: m, h => by
    simp only [eqPs, Bool.and_eq_true] at h
    rw [eqPs_ok _ _ h.2, Prod.ext (eqV_ok _ _ h.1.1) (eqV_ok _ _ h.1.2)]
theorem eqO_ok (a b : SO) (h : eqO a b = true) : a = b := by
  cases a <;> cases b <;> simp [eqO] at h <;> first
    | rfl
    | (obtain ⟨⟨⟨h1, rfl⟩, rfl⟩, rfl⟩ := h; rw [eqVs_ok _ _ h1])
    | rw [eqPs_ok _ _ h]
    | rw [eqVs_ok _ _ h]
theorem eqOpt_ok {α : Type} {f : α → α → Bool} (hf : ∀ a b, f a b = true → a = b) (a b : Option α) (h : eqOpt f a b = true) : a = b := by
  cases a <;> cases b <;> simp [eqOpt] at h <;> first
    | rfl
    | rw [hf _ _ h]
theorem eqT_ok {α : Type} {f : α → α → Bool} (hf : ∀ a b, f a b = true → a = b) : ∀ (a b : Tr α), eqT f a b = true → a = b
  | .nil, .nil, _ => rfl
  | .nil, .node _ _ _, h => by simp [eqT] at h
  | .node _ _ _, .nil, h => by simp [eqT] at h
  | .node l v r, .node l' v' r', h => by
    simp only [eqT, Bool.and_eq_true] at h
    rw [eqOpt_ok hf _ _ h.1.1, eqT_ok hf _ _ h.1.2, eqT_ok hf _ _ h.2]
theorem sameS_ok (a b : SF × St) (h : sameS a b = true) : a = b := by
  obtain ⟨⟨ng, t⟩, ⟨n, low, hp⟩⟩ := a
  obtain ⟨⟨ng', t'⟩, ⟨n', low', hp'⟩⟩ := b
  simp only [sameS, Bool.and_eq_true, decide_eq_true_eq] at h
  obtain ⟨⟨⟨⟨rfl, h2⟩, rfl⟩, rfl⟩, h5⟩ := h
  rw [eqT_ok eqV_ok _ _ h2, eqT_ok eqO_ok _ _ h5]
end
end Go.Proofs.YtdielfpgekenkaaGreatDoor.Sx
