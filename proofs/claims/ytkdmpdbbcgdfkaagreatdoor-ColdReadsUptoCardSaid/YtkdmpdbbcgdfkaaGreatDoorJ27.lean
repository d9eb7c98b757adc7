/-
  The evaluator is the model.
  One block of SHA-256, as the evaluator does it.
  slices.Collect(maps.Keys(m)) of a map of texts with one entry or none.
-/
import Derived.Test.YtkdmpdbbcgdfkaaGreatDoorJ26
import Derived.Test.YtkdmpdbbcgdfkaaGreatDoorJ6
import Derived.Shelf.SlIter.Nil
import Derived.Ground.GgzProg
import Derived.Test.YtkdmpdbbcgdfkaaGreatDoorProg
namespace Go.Proofs.YtkdmpdbbcgdfkaaGreatDoor.Sx
open Go Vm
set_option linter.unusedSimpArgs false
set_option linter.unusedVariables false
def okFn (C : Cx) (f : Nat) (fn : Func) : Bool :=
  fn.name != "runtime.NumGoroutine" && match fn.body with
    | some c => okCode C f fn.ntmps c
    | none => true
/-- the functions that the evaluator knows are the program's, and their regions are as its table says; its hooks are true -/
structure FnOk (C : Cx) : Prop where
  mixed : C.P.follows .mixedOrders = true
  fn : ∀ f fn, C.fn.get f = some fn → C.P.funcs[f]? = some fn ∧ okFn C f fn = true
  hook : ∀ f k, C.hook f = some k → ∀ args st s st', k args st = some (s, st') → ∀ (σ : Env) (h : Heap) (vs : List Value), Rep C.ng st σ h → denL σ args = some vs → Fx C.P f vs.toArray h fun v h' => ∃ σ', den σ' s = some v ∧ Goes C.ng st σ h st' σ' h'
/-- what is deferred -/
def dsR (σ : Env) : List SD → List Deferred → Prop
  | [], [] => True
  | d :: ds, x :: xs => (∃ a1 cs, denL σ d.args = some a1 ∧ denL σ d.cap = some cs ∧ x = { target := .fn (.func d.g) cs.toArray, args := a1.toArray }) ∧ dsR σ ds xs
  | _, _ => False
theorem dsR.mono {σ τ : Env} (h : Pre σ τ) : ∀ (ds : List SD) (xs : List Deferred), dsR σ ds xs → dsR τ ds xs
  | [], [], _ => trivial
  | [], _ :: _, H => H.elim
  | _ :: _, [], H => H.elim
  | d :: ds, x :: xs, ⟨⟨a1, cs, h1, h2, h3⟩, H⟩ => ⟨⟨a1, cs, denL_mono h _ _ h1, denL_mono h _ _ h2, h3⟩, dsR.mono h ds xs H⟩
section
variable {C : Cx} (hC : CxOk C) (hN : FnOk C) {β : Type} {r : β}
include hC in
theorem opsX_ok {call : Nat → List SV → St → Option (SV × St)} (hcall : CallOk C call) {all : List Oper} : ∀ (l : List Oper) (ds : List SD) (xs : List Deferred) (sf : SF) (st : St) (σ : Env) (fr : Fr) (h : Heap) (k : List SD → SF → St → Option β), C.opsX call all l ds sf st k = some r → dsR σ ds xs → Frm σ sf fr → Rep C.ng st σ h →
    ∀ K : List Deferred → Fr → Heap → Prop, (∀ ds' xs' sf' st' σ' fr' h', k ds' sf' st' = some r → dsR σ' ds' xs' → Frm σ' sf' fr' → Goes C.ng st σ h st' σ' h' → K xs' fr' h') → Vm.evX1 C.P all l xs fr h K
  | [], ds, xs, sf, st, σ, fr, h, k, e, hD, hF, H, K, hK => hK ds xs sf st σ fr h e hD hF (Goes.refl H)
  | o :: l, ds, xs, sf, st, σ, fr, h, k, e, hD, hF, H, K, hK => by
    unfold Cx.opsX at e
    unfold Vm.evX1
    refine gk_ok hF e (fun e => ?_) (fun e => ?_)
    · split at e
      · rename_i c ho
        split at e
        · rename_i f hc
          simp only [Option.bind_eq_some_iff] at e
          obtain ⟨fv, hf, e⟩ := e
          obtain ⟨u, u1, u2⟩ := evO_ok hF hf
          split at e
          · rename_i g first cap
            simp only [Option.bind_eq_some_iff] at e
            obtain ⟨vs, hvs, e⟩ := e
            obtain ⟨us, v1, v2⟩ := evOs_ok hF _ _ hvs
            obtain ⟨x, y, h1, h2, rfl⟩ := den_f u2
            obtain ⟨sf', e, hF'⟩ := hF.put (den_undef σ) e
            try simp only [ho]
            try simp only [hc]
            simp only [evk_of u1]
            refine ⟨us, v1, opsX_ok hcall l _ _ sf' st σ _ h k e (by exact ⟨⟨_, _, denL_append _ _ _ _ h1 v2, h2, by simp⟩, hD⟩) hF' H K hK⟩
          · cases e
        · cases e
      · rename_i hnd
        have hX : Vm.opx C.P o fr h fun v h' => Vm.evX1 C.P all l xs (Vm.put fr o.dst v) h' K := by
          refine opx_ok hC hcall hF H e fun s st' σ' v h' e hv hG => ?_
          obtain ⟨sf', e, hF'⟩ := (hF.mono hG.pre).put hv e
          exact opsX_ok hcall l ds xs sf' st' σ' _ h' k e (dsR.mono hG.pre _ _ hD) hF' hG.rep K fun ds2 xs2 sf2 st2 σ2 fr2 h2 e2 hD2 hF2 hG2 => hK ds2 xs2 sf2 st2 σ2 fr2 h2 e2 hD2 hF2 (hG.trans hG2)
        split
        · rename_i c ho; exact absurd ho (hnd c)
        · exact hX
    · obtain ⟨sf', e, hF'⟩ := hF.put (den_undef σ) e
      exact opsX_ok hcall l ds xs sf' st σ _ h k e hD hF' H K hK
include hC in
theorem opsR_ok {call : Nat → List SV → St → Option (SV × St)} (hcall : CallOk C call) {all : List Oper} : ∀ (l : List Oper) (sf : SF) (st : St) (σ : Env) (fr : Fr) (h : Heap) (k : SF → St → Option β), C.opsR call all l sf st k = some r → Frm σ sf fr → Rep C.ng st σ h →
    ∀ K : FrameMode → Fr → Heap → Prop, (∀ sf' st' σ' fr' h', k sf' st' = some r → Frm σ' sf' fr' → Goes C.ng st σ h st' σ' h' → K .returning fr' h') → Vm.evS1 C.P all l .returning fr h K
  | [], sf, st, σ, fr, h, k, e, hF, H, K, hK => hK sf st σ fr h e hF (Goes.refl H)
  | o :: l, sf, st, σ, fr, h, k, e, hF, H, K, hK => by
    unfold Cx.opsR at e
    unfold Vm.evS1
    refine gk_ok hF e (fun e => ?_) (fun e => ?_)
    · have hrec : isRecS o = Vm.isRec o := rfl
      rw [← hrec]
      split at e
      · rename_i hr
        simp only [hr]
        obtain ⟨sf', e, hF'⟩ := hF.put (s := .nifc) (v := .nilIface) rfl e
        exact opsR_ok hcall l sf' st σ _ h k e hF' H K hK
      · rename_i hr
        simp only [hr]
        refine opx_ok hC hcall hF H e fun s st' σ' v h' e hv hG => ?_
        obtain ⟨sf', e, hF'⟩ := (hF.mono hG.pre).put hv e
        exact opsR_ok hcall l sf' st' σ' _ h' k e hF' hG.rep K fun sf2 st2 σ2 fr2 h2 e2 hF2 hG2 => hK sf2 st2 σ2 fr2 h2 e2 hF2 (hG.trans hG2)
    · obtain ⟨sf', e, hF'⟩ := hF.put (den_undef σ) e
      exact opsR_ok hcall l sf' st σ _ h k e hF' H K hK
include hC hN in
theorem codeX_ok {call : Nat → List SV → St → Option (SV × St)} (hcall : CallOk C call) {f n fuel : Nat} : ∀ (c : Code) (ds : List SD) (xs : List Deferred) (sf : SF) (st : St) (σ : Env) (fr : Fr) (h : Heap) (k : SX → List SD → SF → St → Option β), okCode C f n c = true → C.codeX call f fuel c ds sf st k = some r → dsR σ ds xs → Frm σ sf fr → Rep C.ng st σ h →
    ∀ Q : List Deferred → Exit → Fr → Heap → Prop, (∀ e ds' xs' sf' st' σ' fr' h', k e ds' sf' st' = some r → dsR σ' ds' xs' → Frm σ' sf' fr' → Goes C.ng st σ h st' σ' h' → Q xs' (exOf e) fr' h') → CwX C.P n c Q xs fr h := by
  intro c
  have base : ∀ (c : Code) (ds : List SD) (xs : List Deferred) (sf : SF) (st : St) (σ : Env) (fr : Fr) (h : Heap) (k : SX → List SD → SF → St → Option β), okCode C f n c = true → (C.code call f fuel c sf st fun e fr st => k e ds fr st) = some r → dsR σ ds xs → Frm σ sf fr → Rep C.ng st σ h →
      ∀ Q : List Deferred → Exit → Fr → Heap → Prop, (∀ e ds' xs' sf' st' σ' fr' h', k e ds' sf' st' = some r → dsR σ' ds' xs' → Frm σ' sf' fr' → Goes C.ng st σ h st' σ' h' → Q xs' (exOf e) fr' h') → CwX C.P n c Q xs fr h :=
    fun c ds xs sf st σ fr h k hok e hD hF H Q hQ => cwx_of (code_ok hC hN.mixed hcall c sf st σ fr h _ hok e hF H _ fun x sf' st' σ' fr' h' e hF' hG => hQ x ds xs sf' st' σ' fr' h' e (dsR.mono hG.pre _ _ hD) hF' hG)
  induction c with
  | seq a b iha ihb =>
    intro ds xs sf st σ fr h k hok e hD hF H Q hQ
    simp only [okCode, Bool.and_eq_true] at hok
    refine cwx_seq (iha ds xs sf st σ fr h _ hok.1 e hD hF H _ fun x ds' xs' sf' st' σ' fr' h' e hD' hF' hG => ?_)
    cases x with
    | normal => exact ihb ds' xs' sf' st' σ' fr' h' k hok.2 e hD' hF' hG.rep Q fun y ds2 xs2 sf2 st2 σ2 fr2 h2 e2 hD2 hF2 hG2 => hQ y ds2 xs2 sf2 st2 σ2 fr2 h2 e2 hD2 hF2 (hG.trans hG2)
    | exit id => exact hQ (.exit id) ds' xs' sf' st' σ' fr' h' e hD' hF' hG
    | ret => exact hQ .ret ds' xs' sf' st' σ' fr' h' e hD' hF' hG
  | region id ops draw =>
    intro ds xs sf st σ fr h k hok e hD hF H Q hQ
    cases draw with
    | true => exact base _ ds xs sf st σ fr h k hok e hD hF H Q hQ
    | false =>
      simp only [okCode, okRegion, Bool.and_eq_true] at hok
      exact cwx_go1 hok.1 (opsX_ok hC hcall ops.toList ds xs sf st σ fr h _ e hD hF H _ fun ds' xs' sf' st' σ' fr' h' e hD' hF' hG => hQ .normal ds' xs' sf' st' σ' fr' h' e hD' hF' hG)
  | _ =>
    intro ds xs sf st σ fr h k hok e hD hF H Q hQ
    exact base _ ds xs sf st σ fr h k hok e hD hF H Q hQ
include hC hN in
theorem codeS_ok {call : Nat → List SV → St → Option (SV × St)} (hcall : CallOk C call) {f n fuel : Nat} : ∀ (c : Code) (sf : SF) (st : St) (σ : Env) (fr : Fr) (h : Heap) (k : SX → SF → St → Option β), okCode C f n c = true → C.codeS call f fuel c sf st k = some r → Frm σ sf fr → Rep C.ng st σ h →
    ∀ Q : FrameMode → Exit → Fr → Heap → Prop, (∀ e sf' st' σ' fr' h', k e sf' st' = some r → Frm σ' sf' fr' → Goes C.ng st σ h st' σ' h' → Q .returning (exOf e) fr' h') → CwS C.P n c Q .returning fr h := by
  intro c
  have base : ∀ (c : Code) (sf : SF) (st : St) (σ : Env) (fr : Fr) (h : Heap) (k : SX → SF → St → Option β), okCode C f n c = true → C.code call f fuel c sf st k = some r → Frm σ sf fr → Rep C.ng st σ h →
      ∀ Q : FrameMode → Exit → Fr → Heap → Prop, (∀ e sf' st' σ' fr' h', k e sf' st' = some r → Frm σ' sf' fr' → Goes C.ng st σ h st' σ' h' → Q .returning (exOf e) fr' h') → CwS C.P n c Q .returning fr h :=
    fun c sf st σ fr h k hok e hF H Q hQ => cws_of (code_ok hC hN.mixed hcall c sf st σ fr h _ hok e hF H _ fun x sf' st' σ' fr' h' e hF' hG => hQ x sf' st' σ' fr' h' e hF' hG)
  induction c with
  | seq a b iha ihb =>
    intro sf st σ fr h k hok e hF H Q hQ
    simp only [okCode, Bool.and_eq_true] at hok
    refine cws_seq (iha sf st σ fr h _ hok.1 e hF H _ fun x sf' st' σ' fr' h' e hF' hG => ?_)
    cases x with
    | normal => exact ihb sf' st' σ' fr' h' k hok.2 e hF' hG.rep Q fun y sf2 st2 σ2 fr2 h2 e2 hF2 hG2 => hQ y sf2 st2 σ2 fr2 h2 e2 hF2 (hG.trans hG2)
    | exit id => exact hQ (.exit id) sf' st' σ' fr' h' e hF' hG
    | ret => exact hQ .ret sf' st' σ' fr' h' e hF' hG
  | region id ops draw =>
    intro sf st σ fr h k hok e hF H Q hQ
    cases draw with
    | true => exact base _ sf st σ fr h k hok e hF H Q hQ
    | false =>
      simp only [okCode, okRegion, Bool.and_eq_true] at hok
      exact cws_go1 hok.1 (opsR_ok hC hcall ops.toList sf st σ fr h _ e hF H _ fun sf' st' σ' fr' h' e hF' hG => hQ .normal sf' st' σ' fr' h' e hF' hG)
  | _ =>
    intro sf st σ fr h k hok e hF H Q hQ
    exact base _ sf st σ fr h k hok e hF H Q hQ
theorem plain_of {P : Program} {g : Nat} {fn : Func} {c : Code} (hf : P.funcs[g]? = some fn) (hb : fn.body = some c) (hn : (fn.name != "runtime.NumGoroutine") = true) : plain P g = true := by
  unfold plain
  simp only [hf, hb]
  simpa using hn
include hC hN in
theorem runD_ok {call : Nat → List SV → St → Option (SV × St)} (hcall : CallOk C call) {fuel g : Nat} {args : List SV} {vs : List Value} {st : St} {σ : Env} {h : Heap} {k : St → Option β} (e : C.runD call fuel g args st k = some r) (H : Rep C.ng st σ h) (hv : denL σ args = some vs) :
    plain C.P g = true ∧ FxD C.P g vs.toArray .returning h fun x u h' => ∃ v, x = .returned v ∧ u = .returning ∧ ∃ st' σ', k st' = some r ∧ Goes C.ng st σ h st' σ' h' := by
  unfold Cx.runD at e
  simp only [Option.bind_eq_some_iff] at e
  obtain ⟨fn, hfn, c, hb, e⟩ := e
  obtain ⟨hf, hok⟩ := hN.fn g fn hfn
  unfold okFn at hok
  simp only [hb, Bool.and_eq_true] at hok
  split at e
  · rename_i hle
    obtain ⟨sf, e, hF⟩ := args_ok hv H.glob e
    refine ⟨plain_of hf hb hok.1, fnS_of fn.ntmps hf hb rfl ?_ ?_⟩
    · simpa [denL_length _ _ hv] using hle
    · refine codeS_ok hC hN hcall c sf st σ _ h _ hok.2 e hF H _ fun x sf' st' σ' fr' h' e hF' hG => ?_
      cases x with
      | exit id => cases e
      | normal =>
        simp only [Option.bind_eq_some_iff] at e
        obtain ⟨ls, hls, e⟩ := e
        obtain ⟨vs', _, hk⟩ := resS_ok hC hF' (hG.rep.obs (Pre.refl _)) _ _ hls
        exact hk _ ⟨_, rfl, rfl, st', σ', e, hG⟩
      | ret =>
        simp only [Option.bind_eq_some_iff] at e
        obtain ⟨ls, hls, e⟩ := e
        obtain ⟨vs', _, hk⟩ := resS_ok hC hF' (hG.rep.obs (Pre.refl _)) _ _ hls
        exact hk _ ⟨_, rfl, rfl, st', σ', e, hG⟩
  · cases e
include hC hN in
theorem leave_ok {call : Nat → List SV → St → Option (SV × St)} (hcall : CallOk C call) {fuel : Nat} {fn : Func} {R E : Value → Heap → Prop} {fr : Fr} : ∀ (ds : List SD) (xs : List Deferred) (st : St) (σ : Env) (h : Heap) (k : St → Option β), C.leave call fuel ds st k = some r → dsR σ ds xs → Rep C.ng st σ h →
    (∀ st' σ' h', k st' = some r → Goes C.ng st σ h st' σ' h' → LeavesH C.P fn R E fr [] .returning h') → LeavesH C.P fn R E fr xs .returning h
  | [], [], st, σ, h, k, e, hD, H, hK => hK st σ h e (Goes.refl H)
  | [], _ :: _, _, _, _, _, _, hD, _, _ => hD.elim
  | _ :: _, [], _, _, _, _, _, hD, _, _ => hD.elim
  | d :: ds, x :: xs, st, σ, h, k, e, ⟨⟨a1, cs, h1, h2, hx⟩, hD⟩, H, hK => by
    subst hx
    unfold Cx.leave at e
    obtain ⟨hp, hX⟩ := runD_ok hC hN hcall e H (denL_append _ _ _ _ h1 h2)
    have ha : a1.toArray ++ cs.toArray = (a1 ++ cs).toArray := by simp
    refine ⟨d.g, cs.toArray, rfl, hp, by simp, _, by rw [ha]; exact hX, ?_⟩
    rintro x' u' h' hq
    obtain ⟨v, hq⟩ := hq
    obtain ⟨hv, hu, st', σ', e, hG⟩ := hq
    subst hv hu
    exact leave_ok hcall ds xs st' σ' h' k e (dsR.mono hG.pre _ _ hD) hG.rep fun st2 σ2 h2 e2 hG2 => hK st2 σ2 h2 e2 (hG.trans hG2)
include hC hN in
/-- THE EVALUATOR IS THE MODEL. -/
theorem run_ok : ∀ n, CallOk C (C.run n)
  | 0 => fun g args st s st' e => by simp [Cx.run] at e
  | n + 1 => fun g args st s st' e σ h vs H hv => by
    have ih := run_ok n
    unfold Cx.run at e
    split at e
    · rename_i hk hh
      exact hN.hook g hk hh args st s st' e σ h vs H hv
    · simp only [Option.bind_eq_some_iff] at e
      obtain ⟨fn, hfn, e⟩ := e
      obtain ⟨hf, hok⟩ := hN.fn g fn hfn
      split at e
      · -- the library's own
        unfold Cx.outer at e
        simp only [Option.bind_eq_some_iff] at e
        obtain ⟨us, hus, nx, hnx, e⟩ := e
        have := toVs_den _ _ _ hus hv
        subst this
        split at e
        · rename_i v
          simp only [Option.bind_eq_some_iff] at e
          obtain ⟨sv, hsv, e⟩ := e
          rw [forceV_eq] at e
          cases e
          refine .inr fun w hw => ⟨v, w, pureRun_ok _ _ hnx w, SameEnv.refl w, σ, ofV_den σ v _ hsv, ?_⟩
          subst hw
          exact Goes.refl H
        · cases e
      · rename_i c hb
        unfold okFn at hok
        simp only [hb, Bool.and_eq_true] at hok
        have hpl := plain_of hf hb hok.1
        split at e
        · rename_i hle
          have hle' : vs.toArray.size ≤ fn.ntmps := by simpa [denL_length _ _ hv] using hle
          split at e
          · obtain ⟨sf, e, hF⟩ := args_ok hv H.glob e
            refine fn_of fn.ntmps hf hb hpl rfl hle' ?_
            refine code_ok hC hN.mixed ih c sf st σ _ h _ hok.2 e hF H _ fun x sf' st2 σ' fr' h' e hF' hG => ?_
            cases x with
            | exit id => cases e
            | normal =>
              simp only [Option.bind_eq_some_iff, forceV_eq, Option.some.injEq, Prod.mk.injEq] at e
              obtain ⟨ls, hls, rfl, rfl⟩ := e
              obtain ⟨vs', hd, hk⟩ := resS_ok hC hF' (hG.rep.obs (Pre.refl _)) _ _ hls
              exact hk _ ⟨σ', one_ok hd, hG⟩
            | ret =>
              simp only [Option.bind_eq_some_iff, forceV_eq, Option.some.injEq, Prod.mk.injEq] at e
              obtain ⟨ls, hls, rfl, rfl⟩ := e
              obtain ⟨vs', hd, hk⟩ := resS_ok hC hF' (hG.rep.obs (Pre.refl _)) _ _ hls
              exact hk _ ⟨σ', one_ok hd, hG⟩
          · obtain ⟨sf, e, hF⟩ := args_ok hv H.glob e
            refine FxE.fx (fnX_of fn.ntmps hf hb hpl rfl hle' ?_)
            refine codeX_ok hC hN ih c [] [] sf st σ _ h _ hok.2 e trivial hF H _ fun x ds' xs' sf' st2 σ' fr' h' e hD' hF' hG => ?_
            have fin : ∀ st3 σ3 h3, ((C.resS sf' st3 fn.results.toList).bind fun l => forceV (oneS l) fun v => some (v, st3)) = some (s, st') → Goes C.ng st2 σ' h' st3 σ3 h3 →
                LeavesH C.P fn (fun v h' => ∃ σ', den σ' s = some v ∧ Goes C.ng st σ h st' σ' h') (fun _ _ => False) fr' [] .returning h3 := by
              intro st3 σ3 h3 e hG3
              simp only [Option.bind_eq_some_iff, forceV_eq, Option.some.injEq, Prod.mk.injEq] at e
              obtain ⟨ls, hls, rfl, rfl⟩ := e
              obtain ⟨vs', hd, hk⟩ := resS_ok hC (hF'.mono hG3.pre) (hG3.rep.obs (Pre.refl _)) _ _ hls
              exact hk _ ⟨σ3, one_ok hd, hG.trans hG3⟩
            cases x with
            | exit id => cases e
            | normal => exact leave_ok hC hN ih ds' xs' st2 σ' h' _ e hD' hG.rep fin
            | ret => exact leave_ok hC hN ih ds' xs' st2 σ' h' _ e hD' hG.rep fin
        · cases e
end
end Go.Proofs.YtkdmpdbbcgdfkaaGreatDoor.Sx
namespace Go.Proofs.YtkdmpdbbcgdfkaaGreatDoor.Sx
open Go Vm
set_option linter.unusedSimpArgs false
set_option linter.unusedVariables false
def wordOf : SV → Option Nat
  | .i .u32 (.ofNat n) => if Nat.blt n 4294967296 then some n else none
  | _ => none
def wordsS : List SV → Option (List Nat)
  | [] => some []
  | c :: r => (wordOf c).bind fun n => (wordsS r).map (n :: ·)
def forceU {α : Type} (x : UInt32) (k : SV → α) : α := forceN x.toNat fun n => k (.i .u32 (.ofNat n))
def hSha (args : List SV) (st : St) : Option (SV × St) :=
  match args with
  | [.agg ws, .agg bs] => (wordsS ws).bind fun ws => (bytesS bs).bind fun bs => match ws with
    | [a, b, c, d, e, f, g, h] => if bs.length = 64 then
        match Sha.compress ⟨UInt32.ofNat a, UInt32.ofNat b, UInt32.ofNat c, UInt32.ofNat d, UInt32.ofNat e, UInt32.ofNat f, UInt32.ofNat g, UInt32.ofNat h⟩ (bs.map UInt8.ofNat) with
        | ⟨a, b, c, d, e, f, g, h⟩ => forceU a fun a => forceU b fun b => forceU c fun c => forceU d fun d => forceU e fun e => forceU f fun f => forceU g fun g => forceU h fun h => some (.agg [a, b, c, d, e, f, g, h], st)
      else none
    | _ => none
  | _ => none
theorem wordsS_ok {σ : Env} : ∀ (l : List SV) (bs : List Nat) (vs : List Value), wordsS l = some bs → denL σ l = some vs → vs = bs.map fun n => u32v (UInt32.ofNat n)
  | [], bs, vs, e, hv => by
    simp only [wordsS, Option.some.injEq] at e
    simp only [denL, Option.some.injEq] at hv
    subst e hv; rfl
  | c :: r, bs, vs, e, hv => by
    simp only [wordsS, Option.bind_eq_some_iff, Option.map_eq_some_iff] at e
    obtain ⟨n, hn, ns, hns, rfl⟩ := e
    simp only [denL, Option.bind_eq_some_iff, Option.map_eq_some_iff] at hv
    obtain ⟨v, hv, us, hus, rfl⟩ := hv
    rw [wordsS_ok r ns us hns hus, List.map_cons]
    congr 1
    unfold wordOf at hn
    split at hn
    · rename_i m
      split at hn
      · rename_i hm
        cases hn
        have hm : n < 4294967296 := Nat.blt_eq.mp hm
        simp only [den, Option.some.injEq] at hv
        rw [← hv]
        unfold u32v
        rw [UInt32.toNat_ofNat_of_lt' hm]
        rfl
      · cases hn
    · cases hn
theorem u8_of {bs : List Nat} (h : bs.all (Nat.blt · 256) = true) : bs.map vbyte = (bs.map UInt8.ofNat).map u8v := by
  rw [List.map_map]
  apply List.map_congr_left
  intro b hb
  have hlt : b < 256 := by simpa using List.all_eq_true.1 h b hb
  simp only [Function.comp, vbyte, u8v, UInt8.toNat_ofNat_of_lt' hlt]
  rfl
theorem den_u (σ : Env) (x : UInt32) : den σ (.i .u32 (.ofNat x.toNat)) = some (u32v x) := rfl
theorem sha_ok {C : Cx} (hP : C.P = Tryz.prog) {args : List SV} {st st' : St} {s : SV} (e : hSha args st = some (s, st')) {σ : Env} {h : Heap} {vs : List Value} (H : Rep C.ng st σ h) (hv : denL σ args = some vs) :
    Fx C.P 288 vs.toArray h fun v h' => ∃ σ', den σ' s = some v ∧ Goes C.ng st σ h st' σ' h' := by
  rw [hP]
  unfold hSha at e
  split at e
  · rename_i ws bs
    simp only [Option.bind_eq_some_iff] at e
    obtain ⟨wl, hw, bl, hb, e⟩ := e
    simp only [denL, den, Option.bind_eq_some_iff, Option.map_eq_some_iff] at hv
    obtain ⟨_, ⟨wv, hwv, rfl⟩, _, ⟨_, ⟨bv, hbv, rfl⟩, _, h0, rfl⟩, rfl⟩ := hv
    cases h0
    have e1 := wordsS_ok ws wl wv hw hwv
    obtain ⟨e2, e3⟩ := bytesS_ok bs bl bv hb hbv
    rw [u8_of e2] at e3
    split at e
    · rename_i a b c d e' f g h'
      split at e
      · rename_i hl
        obtain ⟨X, hX⟩ : ∃ X : Sha.S8, X = ⟨UInt32.ofNat a, UInt32.ofNat b, UInt32.ofNat c, UInt32.ofNat d, UInt32.ofNat e', UInt32.ofNat f, UInt32.ofNat g, UInt32.ofNat h'⟩ := ⟨_, rfl⟩
        rw [← hX] at e
        have hq := compress_q X (bl.map UInt8.ofNat) (by simpa using hl) h h (ExtH.refl h)
        have e4 : wv = X.list.map u32v := by rw [e1, hX]; rfl
        rw [e4, e3]
        refine hq.mono ?_
        rintro v h2 ⟨rfl, hx⟩
        obtain ⟨Y, hY⟩ : ∃ Y, Sha.compress X (bl.map UInt8.ofNat) = Y := ⟨_, rfl⟩
        rw [hY] at e ⊢
        obtain ⟨ya, yb, yc, yd, ye, yf, yg, yh⟩ := Y
        simp only [forceU, forceN_eq] at e
        cases e
        refine ⟨σ, ?_, H.ext hx, Steps.ext _ _ _ hx, Nat.le_refl _, Nat.le_refl _⟩
        simp only [den, denL, Option.bind_some, Option.map_some]
        rfl
      · cases e
    · cases e
  · cases e
end Go.Proofs.YtkdmpdbbcgdfkaaGreatDoor.Sx
namespace Go.Proofs
open Go.RowKit Go.Maps Go.Sort Go.Shelf
shelf_lay_g SlLaysZ.n10 Ggz 10 at Tryz 172 as Tryz.keysIt
shelf_lay_g SlLaysZ.n8 Ggz 8 at Tryz 170 as Tryz.coll
end Go.Proofs
namespace Go.Proofs.YtkdmpdbbcgdfkaaGreatDoor.Sx
open Go Vm Go.Sort Go.Maps
set_option linter.unusedSimpArgs false
set_option linter.unusedVariables false
def hColl (room : Nat) (args : List SV) (st : St) : Option (SV × St) :=
  match args with
  | [.f g [] [.p b 0]] => if g = 172 then (rowOf st b).bind fun r => match r.1 with
      | [.m id] => (mapOf st id).bind fun es => match es with
        | [] => some (.sn, st)
        | [(.s x, _)] => if x.length < room then newS st (.row [.s x] 9 (some 1) true) fun id st => some (.sg id 0 0 1, st) else none
        | _ => none
      | _ => none
    else none
  | _ => none
abbrev Dt := DataW Unit
def anyR : Value → Option (Dt × List MemPlace) := fun _ => some (.nil, [])
theorem own_of_row {w : World} {base e z n : Nat} {v : Value} {xs : List Value} (hr : w.ownsRow base e z v n xs) : OwnS w.heap e z v n xs ∧ ∀ b, ob v b → base ≤ b := by
  obtain ⟨hl, hr⟩ := hr
  rcases hr with ⟨rfl, rfl⟩ | ⟨g, cap, cur, rfl, hb, hg, hnc, hcm, hs, ht⟩
  · exact ⟨⟨hl, .inl ⟨rfl, rfl⟩⟩, fun b hb => absurd hb ob_nil⟩
  · refine ⟨⟨hl, .inr ⟨g, cap, cur.toList.drop (n * z), rfl, ?_, hnc, hcm, ?_⟩⟩, fun b h => by rw [ob_slice] at h; omega⟩
    · unfold Blk
      rw [hg, ← ht, List.take_append_drop]
    · rw [← ht, List.take_append_drop]; simpa using hs
theorem collect_calls (w : World) (Bm : Nat) (hBm : Bm < w.heap.size) {b : Nat} (hm : w.cell? ⟨Bm, 0, none⟩ = some (.map (some b))) {es : Array MapEntry} {c : Nat} (hb : w.heap[b]? = some (.map es c)) (hSt : MapKept.Stamped es c) (hsz : es.size ≤ 100)
    (hk : ∀ x ∈ es.toList, ∃ s : ByteArray, x.key = .string s ∧ s.size ≤ maxLen) :
    Calls Tryz.prog 170 #[.func (.func 172) #[] #[.pointer (some ⟨Bm, 0, none⟩)]] w fun e w' => ∃ (v : Value) (ss : List (List UInt8)), e = .returned v ∧ ss.Perm (strKeys (.map ((es.toList.map (WideElems.rg Tryz.prog 9 anyR)).foldr DataW.insert []) : Dt)) ∧ w'.ownsRow w.heap.size 9 1 v ss.length (ss.map encStr) ∧ (v = .slice none 0 0 ↔ ss = []) ∧ RowKit.Below w.heap.size w w' := by
  have hown : w.ownsMap Tryz.prog 9 anyR b es.size (.map ((es.toList.map (WideElems.rg Tryz.prog 9 anyR)).foldr DataW.insert [])) := by
    refine ⟨es, c, hb, ⟨?_, hSt, fun x hx => ?_⟩, Nat.le_refl _, rfl⟩
    · simp only [maxLen]; omega
    · obtain ⟨s, h1, h2⟩ := hk x hx
      have := WideMaps.keyOf_string_mk (P := Tryz.prog) (k := 9) (by kernel_rfl) h2
      refine ⟨(.string s.data.toList, .nil), ?_⟩
      unfold WideElems.rd
      rw [h1, this]
      rfl
  have hle := Nat.le_trans hown.size_le hsz
  have hg := Go.Proofs.AnyZ.keys_gives (ρ := Tryz.keysIt_ren) Tryz.keysIt Fence.wide 2 trivial rfl (by omega) Bm b es.size _ w hBm hm hown
  exact callsIn_wide.1 (Go.Proofs.AnyZ.collect_in Tryz.coll Fence.wide 4 trivial trivial rfl (by omega) 172 #[.pointer (some ⟨Bm, 0, none⟩)] trivial (Go.Proofs.enters_of (P := Tryz.prog) (f := 172) Tryz.func172 (by kernel_rfl) rfl) _ _ (by simp only [maxLen]; omega) (by omega) w hg)
theorem cells_rd {h : Heap} {b : Nat} {l : List Value} {t : Nat} {v : Value} (hb : BlkF h b (l) t) (e : l[0]? = some v) : Vm.rd h ⟨b, 0, none⟩ = some v := hb.rd e
theorem below_ext {w w' : World} (b : RowKit.Below w.heap.size w w') : SameEnv w w' ∧ ExtH w.heap w'.heap := ⟨⟨b.os, b.tape, b.output⟩, b.size, b.block⟩
theorem coll_ok {C : Cx} (hP : C.P = Tryz.prog) {args : List SV} {st st' : St} {s : SV} (e : hColl 1048576 args st = some (s, st')) {σ : Env} {h : Heap} {vs : List Value} (H : Rep C.ng st σ h) (hv : denL σ args = some vs) :
    Fx C.P 170 vs.toArray h fun v h' => ∃ σ', den σ' s = some v ∧ Goes C.ng st σ h st' σ' h' := by
  rw [hP]
  unfold hColl at e
  split at e
  · rename_i g b
    split at e
    · rename_i hg
      subst hg
      simp only [Option.bind_eq_some_iff] at e
      obtain ⟨⟨l, t, gg⟩, hr, e⟩ := e
      simp only at e
      split at e
      · rename_i id
        simp only [Option.bind_eq_some_iff] at e
        obtain ⟨es, he, e⟩ := e
        obtain ⟨q, cs, tl, hq, hl, _, hb, _⟩ := row_rd (H.obs (Pre.refl _)) hr
        obtain ⟨q2, mes, c, hq2, hb2, hM, _, hSt⟩ := map_obs (H.obs (Pre.refl _)) he
        simp only [denL, den, hq2, Option.map_some, Option.bind_some, Option.some.injEq] at hl
        subst hl
        simp only [denL, den, hq, Option.map_some, Option.bind_some, Option.some.injEq] at hv
        subst hv
        have hcell : Vm.rd h ⟨q.1, 0, none⟩ = some (.map (some q2.1)) := hb.rd rfl
        have hlt := (H.dom b q hq).2
        have key : ∀ (ss0 : List (List UInt8)), (∀ x ∈ mes.toList, ∃ s : ByteArray, x.key = .string s ∧ s.size ≤ maxLen) → mes.size ≤ 100 → (∀ ss : List (List UInt8), ss.Perm (strKeys (.map ((mes.toList.map (WideElems.rg Tryz.prog 9 anyR)).foldr DataW.insert []) : Dt)) → ss = ss0) →
            ∀ R : Value → Heap → Prop, (∀ v h', OwnS h' 9 1 v ss0.length (ss0.map encStr) → (∀ b, ob v b → h.size ≤ b) → (v = .slice none 0 0 ↔ ss0 = []) → ExtH h h' → R v h') →
            Fx Tryz.prog 170 #[.func (.func 172) #[] #[.pointer (some ⟨q.1, 0, none⟩)]] h R := by
          intro ss0 hk hsz hp R hR
          refine .inl ⟨by kernel_rfl, fun w hw => ?_⟩
          subst hw
          refine (collect_calls w q.1 hlt (by rw [cell_eq_rd]; exact hcell) hb2 hSt hsz hk).mono ?_
          rintro _ w' ⟨v, ss, rfl, hS, hrow, hnil, hbl⟩
          have := hp ss hS
          subst this
          obtain ⟨o1, o2⟩ := own_of_row hrow
          exact ⟨v, rfl, (below_ext hbl).1, hR v _ o1 o2 hnil (below_ext hbl).2⟩
        split at e
        · cases e
          have : mes.toList = [] := by rw [denM_nil] at hM; exact hM
          refine key [] (by simp [this]) (by rw [← Array.length_toList, this]; simp) (fun ss hs => ?_) _ fun v h' _ _ hn hx => ?_
          · rw [this] at hs
            simpa [strKeys] using hs
          · have := hn.2 rfl
            subst this
            exact ⟨σ, rfl, H.ext hx, Steps.ext _ _ _ hx, Nat.le_refl _, Nat.le_refl _⟩
        · rename_i x u _
          split at e
          · rename_i hx
            cases hm : mes.toList with
            | nil => rw [hm] at hM; unfold denM at hM; simp only [List.map_cons, denL, Option.bind_eq_some_iff, Option.map_eq_some_iff] at hM; obtain ⟨⟨_, _, _, _, h⟩, _⟩ := hM; simp at h
            | cons m ms =>
              rw [hm, denM_cons] at hM
              obtain ⟨⟨hk, hu⟩, hM⟩ := hM
              rw [denM_nil] at hM
              subst hM
              obtain ⟨al, hkv⟩ := den_s hk
              have hsz : (bytesOf x).size ≤ maxLen := by rw [bytesOf_size]; simp only [maxLen]; omega
              have hkey := WideMaps.keyOf_string_mk (P := Tryz.prog) (k := 9) (by kernel_rfl) hsz
              refine key [x.map UInt8.ofNat] (by rw [hm]; intro y hy; simp only [List.mem_singleton] at hy; subst hy; exact ⟨_, hkv, hsz⟩) (by rw [← Array.length_toList, hm]; simp) (fun ss hs => ?_) _ fun v h' ho hob _ hxt => ?_
              · rw [hm] at hs
                have hrg : WideElems.rg Tryz.prog 9 anyR m = ((.string (x.map UInt8.ofNat) : Lit), (.nil : Dt)) := by
                  unfold WideElems.rg WideElems.rd
                  rw [hkv, hkey]
                  simp only [Option.bind_some, anyR, Option.map_some, Option.getD_some]
                  simp [bytesOf]
                simp only [List.map_cons, List.map_nil, hrg, List.foldr_cons, List.foldr_nil] at hs
                have : strKeys (.map (DataW.insert ((.string (x.map UInt8.ofNat) : Lit), (.nil : Dt)) []) : Dt) = [x.map UInt8.ofNat] := rfl
                rw [this] at hs
                exact List.perm_singleton.1 hs
              · have hl1 : denL σ [.s x] = some [encStr (x.map UInt8.ofNat)] := by
                  simp only [denL, den, al, if_true, Option.bind_some, Option.map_some, bytesOf]
                obtain ⟨s2, st2, σ2, e2, e3, e4⟩ := own_new (k := fun s st => some (s, st)) (r := (s, st')) H hl1 (by simp; rfl) ho (by simp) hxt hob e
                cases e2
                exact ⟨σ2, e3, e4⟩
          · cases e
        · cases e
      · cases e
    · cases e
  · cases e
end Go.Proofs.YtkdmpdbbcgdfkaaGreatDoor.Sx
