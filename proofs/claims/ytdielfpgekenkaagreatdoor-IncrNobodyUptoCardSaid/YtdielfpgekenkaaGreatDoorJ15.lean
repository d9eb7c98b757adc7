/-
  Panics; deferred calls; recover.
  Functions; what they defer.
  The evaluator is the model.
  One block of SHA-256, as the evaluator does it.
-/
import Derived.Test.YtdielfpgekenkaaGreatDoorJ6
import Derived.Recover
import Derived.Test.YtdielfpgekenkaaGreatDoorJ14
import Derived.Test.YtdielfpgekenkaaGreatDoorJ4
namespace Go.Proofs.YtdielfpgekenkaaGreatDoor.Vm
open Go
variable {ds : List Deferred}
set_option linter.unusedSimpArgs false
set_option linter.unusedVariables false
/-- a panic of a value -/
def pan (v : Value) : List PanicEntry := [{ v, recovered := false }]
/-- a function that returns with R, or panics with E -/
def FxE (P : Program) (f : FuncId) (args : Array Value) (h : Heap) (R E : Value → Heap → Prop) : Prop :=
  Fx P f args h R ∨ (plain P f = true ∧ ∀ w, w.heap = h → Calls P f args w (fun e w' => SameEnv w w' ∧ ((∃ v, e = .returned v ∧ R v w'.heap) ∨ ∃ v, e = .panicked (pan v) ∧ E v w'.heap)))
theorem FxE.mono {P : Program} {f : FuncId} {args : Array Value} {h : Heap} {R R' E E' : Value → Heap → Prop} (H : FxE P f args h R E) (hr : ∀ v h', R v h' → R' v h') (he : ∀ v h', E v h' → E' v h') : FxE P f args h R' E' := by
  rcases H with H | ⟨hp, H⟩
  · exact .inl (H.mono hr)
  · refine .inr ⟨hp, fun w hw => (H w hw).mono ?_⟩
    rintro e w' ⟨hs, ⟨v, e1, h1⟩ | ⟨v, e1, h1⟩⟩
    · exact ⟨hs, .inl ⟨v, e1, hr _ _ h1⟩⟩
    · exact ⟨hs, .inr ⟨v, e1, he _ _ h1⟩⟩
/-- one that never panics -/
theorem FxE.fx {P : Program} {f : FuncId} {args : Array Value} {h : Heap} {R : Value → Heap → Prop} (H : FxE P f args h R fun _ _ => False) : Fx P f args h R := by
  rcases H with H | ⟨hp, H⟩
  · exact H
  · refine .inl ⟨hp, fun w hw => (H w hw).mono ?_⟩
    rintro e w' ⟨hs, ⟨v, e1, h1⟩ | ⟨v, e1, h1⟩⟩
    · exact ⟨v, e1, hs, h1⟩
    · exact h1.elim
theorem run_callFunc {P : Program} {f : FuncId} (hp : plain P f = true) (args : Array Value) (w : World) : (callFunc f args).run P w = .ok (.enter f args) w := by
  unfold plain at hp
  split at hp
  · rename_i fn hfn
    simp only [Bool.and_eq_true, bne_iff_ne, ne_eq] at hp
    obtain ⟨body, hb⟩ := Option.isSome_iff_exists.1 hp.1
    simp [callFunc, hfn, hp.2, hb]
  · cases hp
def opE (P : Program) (o : Oper) (fr : Fr) (h : Heap) (k kp : Value → Heap → Prop) : Prop :=
  match o.op with
  | .panic x => evk fr x fun v => match v with
    | .iface t u => kp (.iface t u) h
    | _ => False
  | .call c => match c.callee with
    | .value f => evk fr f fun fv => match fv with
      | .func (.func f) first cap => ∃ vs, evs fr c.args.toList = some vs ∧ ∃ R E, FxE P f (first ++ vs.toArray ++ cap) h R E ∧ (∀ v h', R v h' → k v h') ∧ ∀ v h', E v h' → kp v h'
      | _ => False
    | _ => opx2 P o fr h k
  | _ => opx2 P o fr h k
theorem opE_sound {P : Program} {o : Oper} {fr : Fr} {h : Heap} {k kp : Value → Heap → Prop} {n : Nat} {a : Act} (hF : Hold ds n fr a) (H : opE P o fr h k kp) {w : World} (hw : w.heap = h) {K : Act → World → Prop} {Q : Exit → Act → World → Prop}
    (hK : ∀ v w', SameEnv w w' → k v w'.heap → K (a.put o.dst v) w') (hQ : ∀ v w', SameEnv w w' → kp v w'.heap → Q (.panic (pan v)) a w') : o.wp P a w K Q := by
  unfold opE at H
  split at H
  · rename_i x ho
    obtain ⟨v, hv, H⟩ := evk_elim H
    split at H
    · rename_i t u
      have : (execOp a.eval o).run P w = .halt (.panic (.iface t u)) w := by
        simp [execOp, ho, hF.ev hv, run_panic_iface]
      unfold Oper.wp
      rw [this]
      exact hQ _ w (SameEnv.refl w) (hw ▸ H)
    · exact H.elim
  · rename_i c ho
    split at H
    · rename_i f hc
      obtain ⟨fv, hfv, H⟩ := evk_elim H
      split at H
      · rename_i f' first cap
        obtain ⟨vs, hvs, R, E, hR, H1, H2⟩ := H
        have e1 : c.args.map a.eval = vs.toArray := by
          apply Array.ext'
          simpa using mapM_evs hF c.args.toList vs hvs
        have hex : (execOp a.eval o).run P w = (callFunc f' (first ++ vs.toArray ++ cap)).run P w := by
          simp [execOp, ho, resolve, hc, hF.ev hfv, Deferred.ofValue, invoke, e1]
        unfold Oper.wp
        rw [hex]
        rcases hR with (⟨hp, hR⟩ | hR) | ⟨hp, hR⟩
        · rw [run_callFunc hp]
          refine (hR w hw).mono ?_
          rintro e w' ⟨v, rfl, hs, hr⟩
          exact hK _ _ hs (H1 _ _ hr)
        · obtain ⟨v, w', hr, hs, hR⟩ := hR w hw
          rw [hr]
          exact hK _ _ hs (H1 _ _ hR)
        · rw [run_callFunc hp]
          refine (hR w hw).mono ?_
          rintro e w' ⟨hs, ⟨v, rfl, hr⟩ | ⟨v, rfl, hr⟩⟩
          · exact hK _ _ hs (H1 _ _ hr)
          · exact hQ _ _ hs (H2 _ _ hr)
      · exact H.elim
    · exact wp_of_comes (opx_sound hF (opx2_elim H) hw) hK
  · exact wp_of_comes (opx_sound hF (opx2_elim H) hw) hK
def evE (P : Program) (all : List Oper) (Kp : Value → Fr → Heap → Prop) : List Oper → Fr → Heap → (Fr → Heap → Prop) → Prop
  | [], fr, h, K => K fr h
  | o :: r, fr, h, K => gk all o fr (opE P o fr h (fun v h' => evE P all Kp r (put fr o.dst v) h' K) fun v h' => Kp v fr h') (evE P all Kp r (put fr o.dst undef) h K)
theorem evE_sound {P : Program} {n : Nat} {all : List Oper} {Q : Exit → Act → World → Prop} {K : Fr → Heap → Prop} {Kp : Value → Fr → Heap → Prop} : ∀ (l : List Oper), (∀ o ∈ l, dok n o.dst) → ∀ (fr : Fr) (h : Heap) (a : Act) (w : World),
    evE P all Kp l fr h K → Hold ds n fr a → w.heap = h → (∀ fr' a' w', Hold ds n fr' a' → SameEnv w w' → K fr' w'.heap → Q .normal a' w') →
    (∀ v fr' a' w', Hold ds n fr' a' → SameEnv w w' → Kp v fr' w'.heap → Q (.panic (pan v)) a' w') → wpList P all.toArray Q l a w
  | [], _, fr, h, a, w, H, hF, hw, hQ, _ => hQ fr a w hF (SameEnv.refl w) (hw ▸ H)
  | o :: r, hd, fr, h, a, w, H, hF, hw, hQ, hQp => by
    unfold evE at H
    unfold wpList
    rcases gk_elim H hF with ⟨hg, H⟩ | ⟨hg, H⟩
    · rw [if_pos hg]
      refine .inl (opE_sound hF H hw (fun v w' hs hk => ?_) fun v w' hs hk => hQp v fr a w' hF hs hk)
      exact evE_sound r (fun o ho => hd o (by simp [ho])) _ _ _ w' hk (hF.put _ _ (hd o (by simp))) rfl (fun fr' a' w'' h1 h2 h3 => hQ fr' a' w'' h1 (hs.trans h2) h3)
        (fun v fr' a' w'' h1 h2 h3 => hQp v fr' a' w'' h1 (hs.trans h2) h3)
    · rw [if_neg (by simp [hg])]
      exact evE_sound r (fun o ho => hd o (by simp [ho])) _ _ _ w H (hF.put _ _ (hd o (by simp))) hw hQ hQp
section
variable {P : Program} {n : Nat} {Q : Exit → Fr → Heap → Prop} {fr : Fr} {h : Heap}
theorem cw_goE {id : Nat} {ops : Array Oper} (hd : dstsB n ops.toList = true) (H : evE P ops.toList (fun v fr h => Q (.panic (pan v)) fr h) ops.toList fr h fun fr h => Q .normal fr h) : CwD ds P n (.region id ops false) Q fr h :=
  ⟨fun w0 a w hF hs hw => wp_region_list (by
    have := evE_sound (n := n) (Q := Post ds w0 n Q) ops.toList (fun o ho => dok_of hd ho) fr h a w H hF hw (fun fr' a' w' hF' hs' hk => ⟨fr', hF', hs.trans hs', hk⟩) (fun v fr' a' w' hF' hs' hk => ⟨fr', hF', hs.trans hs', hk⟩)
    simpa using this)⟩
theorem say_call {f : FuncId} {args : Array Value} {R : Value → Heap → Prop} {k kp : Value → Heap → Prop} (H : Fx P f args h R) (hk : ∀ v h', R v h' → k v h') :
    ∃ R E, FxE P f args h R E ∧ (∀ v h', R v h' → k v h') ∧ ∀ v h', E v h' → kp v h' := ⟨R, fun _ _ => False, .inl H, hk, fun _ _ h => h.elim⟩
theorem say_callE {f : FuncId} {args : Array Value} {R E : Value → Heap → Prop} {k kp : Value → Heap → Prop} (H : FxE P f args h R E) (hk : ∀ v h', R v h' → k v h') (hp : ∀ v h', E v h' → kp v h') :
    ∃ R E, FxE P f args h R E ∧ (∀ v h', R v h' → k v h') ∧ ∀ v h', E v h' → kp v h' := ⟨R, E, H, hk, hp⟩
def fnQE (P : Program) (fn : Func) (R E : Value → Heap → Prop) : Exit → Fr → Heap → Prop
  | .normal, fr, h => resL P fn.results.toList fr h fun vs => R (one vs) h
  | .ret, fr, h => resL P fn.results.toList fr h fun vs => R (one vs) h
  | .panic c, _, h => ∃ v, c = pan v ∧ E v h
  | _, _, _ => False
theorem begin_hold {fn : Func} {args : Array Value} (hn : fn.ntmps = n) (ha : args.size ≤ n) : Hold [] n (argsFr args.toList 0) { tmps := args ++ Array.replicate (fn.ntmps - args.size) undef, defers := [] } := by
  refine ⟨by simp [hn]; omega, rfl, fun t v hl => ?_⟩
  obtain ⟨_, h2⟩ := lk_argsFr _ _ _ _ hl
  simp only [Nat.sub_zero, Array.getElem?_toList] at h2
  obtain ⟨h3, h4⟩ := Array.getElem?_eq_some_iff.1 h2
  refine ⟨by omega, ?_⟩
  rw [Array.getD_eq_getD_getElem?, Array.getElem?_append_left h3, h2]
  rfl
/-- the end of a function that may panic -/
def EndE (R E : Value → Heap → Prop) (w0 : World) : Ending → World → Prop := fun e w => SameEnv w0 w ∧ ((∃ v, e = .returned v ∧ R v w.heap) ∨ ∃ v, e = .panicked (pan v) ∧ E v w.heap)
theorem bodyE {fn : Func} {c : Code} {R E : Value → Heap → Prop} {a : Act} {w : World} (hF : Hold [] n fr a) (H : Cw P n c (fnQE P fn R E) fr w.heap) : c.wp P (bodyPost P fn (EndE R E w)) a w := by
  refine Code.wp_mono ?_ (H.run w _ w hF (SameEnv.refl w) rfl)
  rintro e a w' ⟨fr, hF', hs, hq⟩
  cases e with
  | normal =>
    obtain ⟨v, hR, hr⟩ := results_run (R := fun v => R v w'.heap) hF' hq
    exact ⟨hF'.defers, v, hr, hs, .inl ⟨v, rfl, hR⟩⟩
  | ret =>
    obtain ⟨v, hR, hr⟩ := results_run (R := fun v => R v w'.heap) hF' hq
    exact ⟨hF'.defers, v, hr, hs, .inl ⟨v, rfl, hR⟩⟩
  | panic c =>
    obtain ⟨v, rfl, hE⟩ := hq
    exact ⟨hF'.defers, hs, .inr ⟨v, rfl, hE⟩⟩
  | _ => exact hq.elim
/-- FROM A BODY TO A CONTRACT, where it may panic -/
theorem fnE_of {f : FuncId} {fn : Func} {c : Code} {args : Array Value} {R E : Value → Heap → Prop} (n : Nat) (hf : P.funcs[f]? = some fn) (hb : fn.body = some c) (hp : plain P f = true)
    (hn : fn.ntmps = n) (ha : args.size ≤ n) (H : Cw P n c (fnQE P fn R E) (argsFr args.toList 0) h) : FxE P f args h R E :=
  .inr ⟨hp, fun w hw => calls_of_wp hf hb (bodyE (begin_hold hn ha) (hw ▸ H))⟩
/-! ### deferred calls -/
/-- the contract of a deferred function: u, the frame's mode below it -/
def FxD (P : Program) (f : FuncId) (args : Array Value) (u : FrameMode) (h : Heap) (X : Ending → FrameMode → Heap → Prop) : Prop :=
  ∀ w, w.heap = h → CallsD P f args u w fun e u' w' => SameEnv w w' ∧ X e u' w'.heap
theorem FxD.mono {f : FuncId} {args : Array Value} {u : FrameMode} {X Y : Ending → FrameMode → Heap → Prop} (H : FxD P f args u h X) (hx : ∀ e u h, X e u h → Y e u h) : FxD P f args u h Y :=
  fun w hw => (H w hw).mono fun _ _ _ ⟨a, b⟩ => ⟨a, hx _ _ _ b⟩
/-- what is deferred is carried out, the last first -/
def LeavesH (P : Program) (fn : Func) (R E : Value → Heap → Prop) (fr : Fr) : List Deferred → FrameMode → Heap → Prop
  | [], .returning, h => resL P fn.results.toList fr h fun vs => R (one vs) h
  | [], .panicking c, h => ∃ v, c = pan v ∧ E v h
  | [], .run, _ => False
  | d :: ds, u, h => ∃ g cap, d.target = .fn (.func g) cap ∧ plain P g = true ∧ u ≠ .run ∧ ∃ X, FxD P g (d.args ++ cap) u h X ∧ ∀ e u' h', X e u' h' → match e with
    | .returned _ => LeavesH P fn R E fr ds (settle u') h'
    | .panicked c => LeavesH P fn R E fr ds (raised u' c) h'
    | .outgrown => False
theorem leavesH_run {fn : Func} {R E : Value → Heap → Prop} {a : Act} {w0 : World} (hF : Hold ds n fr a) : ∀ (l : List Deferred) (u : FrameMode) (w : World), LeavesH P fn R E fr l u w.heap → SameEnv w0 w → Leaves P fn a.tmps (EndE R E w0) l u w
  | [], u, w, H, hs => by
    cases u with
    | run => exact H.elim
    | returning =>
      obtain ⟨v, hR, hr⟩ := results_run (R := fun v => R v w.heap) hF H
      exact ⟨v, hr, hs, .inl ⟨v, rfl, hR⟩⟩
    | panicking c =>
      obtain ⟨v, rfl, hE⟩ := H
      exact ⟨hs, .inr ⟨v, rfl, hE⟩⟩
  | d :: l, u, w, H, hs => by
    obtain ⟨g, cap, ht, hp, hu, X, hX, H⟩ := H
    refine ⟨hu, .func g, cap, g, d.args ++ cap, ht, ?_, (hX w rfl).mono ?_⟩
    · rw [ht]; simp only [invoke]; exact run_callFunc hp _ w
    · rintro e u' w' ⟨hs', hx⟩
      have := H _ _ _ hx
      cases e with
      | returned v => exact leavesH_run hF l _ w' this (hs.trans hs')
      | panicked c => exact leavesH_run hF l _ w' this (hs.trans hs')
      | outgrown => exact this.elim
/-- code that defers -/
structure CwX (P : Program) (n : Nat) (c : Code) (Q : List Deferred → Exit → Fr → Heap → Prop) (ds : List Deferred) (fr : Fr) (h : Heap) : Prop where
  run : ∀ w0 a w, Hold ds n fr a → SameEnv w0 w → w.heap = h → c.wp P (fun e a w => ∃ ds fr, Hold ds n fr a ∧ SameEnv w0 w ∧ Q ds e fr w.heap) a w
theorem cwx_of {c : Code} {Q : List Deferred → Exit → Fr → Heap → Prop} (H : CwD ds P n c (Q ds) fr h) : CwX P n c Q ds fr h :=
  ⟨fun w0 a w hF hs hw => Code.wp_mono (fun _ _ _ ⟨fr, h1, h2, h3⟩ => ⟨ds, fr, h1, h2, h3⟩) (H.run w0 a w hF hs hw)⟩
def thenX (N : List Deferred → Fr → Heap → Prop) (Q : List Deferred → Exit → Fr → Heap → Prop) : List Deferred → Exit → Fr → Heap → Prop
  | ds, .normal, fr, h => N ds fr h
  | ds, e, fr, h => Q ds e fr h
theorem cwx_seq {x y : Code} {Q : List Deferred → Exit → Fr → Heap → Prop} (H : CwX P n x (thenX (fun ds fr h => CwX P n y Q ds fr h) Q) ds fr h) : CwX P n (.seq x y) Q ds fr h :=
  ⟨fun w0 a w hF hs hw => wp_seq (Code.wp_mono (by
    rintro e a w ⟨ds, fr, hF, hs, hq⟩
    cases e with
    | normal => exact hq.run w0 a w hF hs rfl
    | _ => exact ⟨ds, fr, hF, hs, hq⟩) (H.run w0 a w hF hs hw))⟩
def evX (P : Program) (all : List Oper) : List Oper → List Deferred → Fr → Heap → (List Deferred → Fr → Heap → Prop) → Prop
  | [], ds, fr, h, K => K ds fr h
  | o :: r, ds, fr, h, K => gk all o fr
      (match o.op with
        | .defer c => match c.callee with
          | .value f => evk fr f fun fv => match fv with
            | .func g first cap => ∃ vs, evs fr c.args.toList = some vs ∧ evX P all r ({ target := .fn g cap, args := first ++ vs.toArray } :: ds) (put fr o.dst undef) h K
            | _ => False
          | _ => False
        | _ => opx2 P o fr h fun v h' => evX P all r ds (put fr o.dst v) h' K)
      (evX P all r ds (put fr o.dst undef) h K)
theorem evX_sound {all : List Oper} {Q : Exit → Act → World → Prop} {K : List Deferred → Fr → Heap → Prop} : ∀ (l : List Oper), (∀ o ∈ l, dok n o.dst) → ∀ (ds : List Deferred) (fr : Fr) (h : Heap) (a : Act) (w : World),
    evX P all l ds fr h K → Hold ds n fr a → w.heap = h → (∀ ds' fr' a' w', Hold ds' n fr' a' → SameEnv w w' → K ds' fr' w'.heap → Q .normal a' w') → wpList P all.toArray Q l a w
  | [], _, ds, fr, h, a, w, H, hF, hw, hQ => hQ ds fr a w hF (SameEnv.refl w) (hw ▸ H)
  | o :: r, hd, ds, fr, h, a, w, H, hF, hw, hQ => by
    unfold evX at H
    unfold wpList
    rcases gk_elim H hF with ⟨hg, H⟩ | ⟨hg, H⟩
    · rw [if_pos hg]
      refine .inl ?_
      split at H
      · rename_i c ho
        split at H
        · rename_i f hc
          obtain ⟨fv, hfv, H⟩ := evk_elim H
          split at H
          · rename_i g first cap
            obtain ⟨vs, hvs, H⟩ := H
            have e1 : c.args.map a.eval = vs.toArray := by
              apply Array.ext'
              simpa using mapM_evs hF c.args.toList vs hvs
            have hex : (execOp a.eval o).run P w = .ok (.defer { target := .fn g cap, args := first ++ vs.toArray }) w := by
              simp [execOp, ho, resolve, hc, hF.ev hfv, Deferred.ofValue, e1]
            unfold Oper.wp
            rw [hex]
            have hF' : Hold ({ target := .fn g cap, args := first ++ vs.toArray } :: ds) n fr { a with defers := { target := .fn g cap, args := first ++ vs.toArray } :: a.defers } := ⟨hF.size, by simp [hF.defers], hF.has⟩
            exact evX_sound r (fun o ho => hd o (by simp [ho])) _ _ _ _ w H (hF'.put _ _ (hd o (by simp))) hw hQ
          · exact H.elim
        · exact H.elim
      · refine wp_of_comes (opx_sound hF (opx2_elim H) hw) fun v w' hs hk => ?_
        exact evX_sound r (fun o ho => hd o (by simp [ho])) _ _ _ _ w' hk (hF.put _ _ (hd o (by simp))) rfl (fun ds' fr' a' w'' h1 h2 h3 => hQ ds' fr' a' w'' h1 (hs.trans h2) h3)
    · rw [if_neg (by simp [hg])]
      exact evX_sound r (fun o ho => hd o (by simp [ho])) _ _ _ _ w H (hF.put _ _ (hd o (by simp))) hw hQ
theorem cwx_go {id : Nat} {ops : Array Oper} {Q : List Deferred → Exit → Fr → Heap → Prop} (hd : dstsB n ops.toList = true) (H : evX P ops.toList ops.toList ds fr h fun ds fr h => Q ds .normal fr h) : CwX P n (.region id ops false) Q ds fr h :=
  ⟨fun w0 a w hF hs hw => wp_region_list (by
    have := evX_sound (n := n) (Q := fun e a w => ∃ ds fr, Hold ds n fr a ∧ SameEnv w0 w ∧ Q ds e fr w.heap) ops.toList (fun o ho => dok_of hd ho) ds fr h a w H hF hw (fun ds' fr' a' w' hF' hs' hk => ⟨ds', fr', hF', hs.trans hs', hk⟩)
    simpa using this)⟩
def fnQX (P : Program) (fn : Func) (R E : Value → Heap → Prop) : List Deferred → Exit → Fr → Heap → Prop
  | ds, .normal, fr, h => LeavesH P fn R E fr ds .returning h
  | ds, .ret, fr, h => LeavesH P fn R E fr ds .returning h
  | ds, .panic c, fr, h => LeavesH P fn R E fr ds (.panicking c) h
  | _, _, _, _ => False
/-- FROM A BODY TO A CONTRACT, where calls are deferred -/
theorem fnX_of {f : FuncId} {fn : Func} {c : Code} {args : Array Value} {R E : Value → Heap → Prop} (n : Nat) (hf : P.funcs[f]? = some fn) (hb : fn.body = some c) (hp : plain P f = true)
    (hn : fn.ntmps = n) (ha : args.size ≤ n) (H : CwX P n c (fnQX P fn R E) [] (argsFr args.toList 0) h) : FxE P f args h R E := by
  refine .inr ⟨hp, fun w hw => calls_of_wp_defers hf hb ?_⟩
  refine Code.wp_mono ?_ (H.run w _ w (begin_hold hn ha) (SameEnv.refl w) hw)
  rintro e a w' ⟨ds, fr, hF', hs, hq⟩
  have hd := hF'.defers
  cases e with
  | normal => exact (show Leaves P fn a.tmps _ a.defers .returning w' from hd ▸ leavesH_run hF' ds _ w' hq hs)
  | ret => exact (show Leaves P fn a.tmps _ a.defers .returning w' from hd ▸ leavesH_run hF' ds _ w' hq hs)
  | panic c => exact (show Leaves P fn a.tmps _ a.defers (.panicking c) w' from hd ▸ leavesH_run hF' ds _ w' hq hs)
  | _ => exact hq.elim
/-- a deferred function that does not recover -/
theorem fnD_of {f : FuncId} {fn : Func} {c : Code} {args : Array Value} {u : FrameMode} {R E : Value → Heap → Prop} (n : Nat) (hf : P.funcs[f]? = some fn) (hb : fn.body = some c)
    (hn : fn.ntmps = n) (ha : args.size ≤ n) (H : Cw P n c (fnQE P fn R E) (argsFr args.toList 0) h) :
    FxD P f args u h fun e u' h' => u' = u ∧ ((∃ v, e = .returned v ∧ R v h') ∨ ∃ v, e = .panicked (pan v) ∧ E v h') :=
  fun w hw => (callsD_of_wp (R := EndE R E w) hf hb (bodyE (begin_hold hn ha) (hw ▸ H))).mono fun _ _ _ ⟨h1, h2, h3⟩ => ⟨h2, h1, h3⟩
/-! ### recover -/
def recU : FrameMode → Option (Value × FrameMode)
  | .panicking ({ v, recovered := false, goexit := false } :: older) => some (v, .panicking ({ v, recovered := true } :: older))
  | _ => none
theorem recoverD_recU (c : Frame) (cs : List Frame) : recoverD (c :: cs) = (recU c.mode).map fun x => (x.1, { c with mode := x.2 } :: cs) := by
  obtain ⟨fn, tmps, todo, defers, mode, kind, ro⟩ := c
  cases mode with
  | run => rfl
  | returning => rfl
  | panicking l =>
    match l with
    | [] => rfl
    | ⟨v, r, g⟩ :: older => cases r <;> cases g <;> rfl
/-- code of a deferred function that may recover: u, the frame's mode below -/
structure CwS (P : Program) (n : Nat) (c : Code) (Q : FrameMode → Exit → Fr → Heap → Prop) (u : FrameMode) (fr : Fr) (h : Heap) : Prop where
  run : ∀ (c0 : Frame) (cs : List Frame) w0 a w, c0.mode = u → Hold [] n fr a → SameEnv w0 w → w.heap = h →
    c.wpS P (fun e a cs' w' => ∃ u' fr', cs' = { c0 with mode := u' } :: cs ∧ Hold [] n fr' a ∧ SameEnv w0 w' ∧ Q u' e fr' w'.heap) a (c0 :: cs) w
theorem cws_of {c : Code} {Q : FrameMode → Exit → Fr → Heap → Prop} {u : FrameMode} (H : Cw P n c (Q u) fr h) : CwS P n c Q u fr h :=
  ⟨fun c0 cs w0 a w hc hF hs hw => wpS_of_wp (Code.wp_mono (fun _ _ _ ⟨fr, h1, h2, h3⟩ => ⟨u, fr, by subst hc; rfl, h1, h2, h3⟩) (H.run w0 a w hF hs hw))⟩
def thenS (N : FrameMode → Fr → Heap → Prop) (Q : FrameMode → Exit → Fr → Heap → Prop) : FrameMode → Exit → Fr → Heap → Prop
  | u, .normal, fr, h => N u fr h
  | u, e, fr, h => Q u e fr h
theorem wpS_mono {c : Code} {Q Q' : Exit → Act → List Frame → World → Prop} {a : Act} {cs : List Frame} {w : World} (H : c.wpS P Q a cs w) (hq : ∀ e a cs w, Q e a cs w → Q' e a cs w) : c.wpS P Q' a cs w :=
  fun b k h1 h2 => let ⟨e, a', cs', w', q, r⟩ := H b k h1 h2; ⟨e, a', cs', w', hq _ _ _ _ q, r⟩
theorem cws_seq {x y : Code} {Q : FrameMode → Exit → Fr → Heap → Prop} {u : FrameMode} (H : CwS P n x (thenS (fun u fr h => CwS P n y Q u fr h) Q) u fr h) : CwS P n (.seq x y) Q u fr h :=
  ⟨fun c0 cs w0 a w hc hF hs hw => wpS_seq (wpS_mono (H.run c0 cs w0 a w hc hF hs hw) (by
    rintro e a cs' w ⟨u', fr', rfl, hF', hs', hq⟩
    cases e with
    | normal => exact hq.run { c0 with mode := u' } cs w0 a w rfl hF' hs' rfl
    | _ => exact ⟨u', fr', rfl, hF', hs', hq⟩))⟩
def isRec (o : Oper) : Bool :=
  match o.op with
  | .call c => match c.callee with
    | .builtin .recover => true
    | _ => false
  | _ => false
def evS (P : Program) (all : List Oper) : List Nat → FrameMode → Fr → Heap → (FrameMode → Fr → Heap → Prop) → Prop
  | [], u, fr, h, K => K u fr h
  | i :: r, u, fr, h, K => match all[i]? with
    | none => False
    | some o => gk all o fr
        (match isRec o with
          | true => match recU u with
            | some (v, u') => evS P all r u' (put fr o.dst v) h K
            | none => evS P all r u (put fr o.dst .nilIface) h K
          | false => opx2 P o fr h fun v h' => evS P all r u (put fr o.dst v) h' K)
        (evS P all r u (put fr o.dst undef) h K)
theorem evS_sound {all : List Oper} {Q : Exit → Act → List Frame → World → Prop} {K : FrameMode → Fr → Heap → Prop} (c0 : Frame) (cs : List Frame) (hd : ∀ o ∈ all, dok n o.dst) : ∀ (l : List Nat) (u : FrameMode) (fr : Fr) (h : Heap) (a : Act) (w : World),
    evS P all l u fr h K → Hold [] n fr a → w.heap = h → (∀ u' fr' a' w', Hold [] n fr' a' → SameEnv w w' → K u' fr' w'.heap → Q .normal a' ({ c0 with mode := u' } :: cs) w') → wpOpsS P all.toArray Q l a ({ c0 with mode := u } :: cs) w
  | [], u, fr, h, a, w, H, hF, hw, hQ => hQ u fr a w hF (SameEnv.refl w) (hw ▸ H)
  | i :: r, u, fr, h, a, w, H, hF, hw, hQ => by
    unfold evS at H
    unfold wpOpsS
    cases ho : all[i]? with
    | none => simp [ho] at H
    | some o =>
      simp only [ho] at H
      have ho' : all.toArray[i]? = some o := by simpa using ho
      have hdo := hd o (List.mem_of_getElem? ho)
      simp only [ho']
      rcases gk_elim H hF with ⟨hg, H⟩ | ⟨hg, H⟩
      · rw [if_pos hg]
        cases hr : isRec o with
        | true =>
          simp only [hr] at H
          have hex : (execOp a.eval o).run P w = .ok .recover w := by
            unfold isRec at hr
            split at hr
            · rename_i c hc
              split at hr
              · rename_i hb
                simp [execOp, hc, resolve, hb, invoke, builtin]
              · cases hr
            · cases hr
          rw [hex]
          simp only [recoverD_recU]
          cases hu : recU u with
          | none =>
            simp only [hu] at H
            exact evS_sound c0 cs hd r _ _ _ _ w H (hF.put _ _ hdo) hw hQ
          | some x =>
            obtain ⟨v, u'⟩ := x
            simp only [hu] at H
            exact evS_sound c0 cs hd r _ _ _ _ w H (hF.put _ _ hdo) hw hQ
        | false =>
          simp only [hr] at H
          have hc := opx_sound hF (opx2_elim H) hw
          generalize (execOp a.eval o).run P w = res at *
          cases res with
          | halt x w' => exact hc.elim
          | ok nx w' =>
            cases nx <;> simp only [Comes'] at hc <;> simp only [Oper.upon]
            case value v => exact evS_sound c0 cs hd r _ _ _ _ w' hc.2 (hF.put _ _ hdo) rfl (fun u' fr' a' w'' h1 h2 h3 => hQ u' fr' a' w'' h1 (hc.1.trans h2) h3)
            case skip => exact evS_sound c0 cs hd r _ _ _ _ w' hc.2 (hF.put _ _ hdo) rfl (fun u' fr' a' w'' h1 h2 h3 => hQ u' fr' a' w'' h1 (hc.1.trans h2) h3)
            case enter f args =>
              obtain ⟨rfl, hc⟩ := hc
              refine hc.mono ?_
              rintro e w'' ⟨v, rfl, hs, hk⟩
              exact evS_sound c0 cs hd r _ _ _ _ w'' hk (hF.put _ _ hdo) rfl (fun u' fr' a' w'' h1 h2 h3 => hQ u' fr' a' w'' h1 (hs.trans h2) h3)
      · rw [if_neg (by simp [hg])]
        exact evS_sound c0 cs hd r _ _ _ _ w H (hF.put _ _ hdo) hw hQ
theorem cws_go {id : Nat} {ops : Array Oper} {Q : FrameMode → Exit → Fr → Heap → Prop} {u : FrameMode} (hd : dstsB n ops.toList = true) (H : evS P ops.toList (List.range ops.size) u fr h fun u fr h => Q u .normal fr h) : CwS P n (.region id ops false) Q u fr h :=
  ⟨fun c0 cs w0 a w hc hF hs hw => wpS_region (by
    have e : c0 = { c0 with mode := u } := by subst hc; rfl
    have := evS_sound (n := n) (Q := fun e a cs' w' => ∃ u' fr', cs' = { c0 with mode := u' } :: cs ∧ Hold [] n fr' a ∧ SameEnv w0 w' ∧ Q u' e fr' w'.heap) c0 cs (fun o ho => dok_of hd ho) (List.range ops.size) u fr h a w H hF hw
      (fun u' fr' a' w' hF' hs' hk => ⟨u', fr', rfl, hF', hs.trans hs', hk⟩)
    rw [← e] at this
    simpa using this)⟩
def fnQS (P : Program) (fn : Func) (X : Ending → FrameMode → Heap → Prop) : FrameMode → Exit → Fr → Heap → Prop
  | u, .normal, fr, h => resL P fn.results.toList fr h fun vs => X (.returned (one vs)) u h
  | u, .ret, fr, h => resL P fn.results.toList fr h fun vs => X (.returned (one vs)) u h
  | u, .panic c, _, h => X (.panicked c) u h
  | _, _, _, _ => False
/-- a deferred function that may recover -/
theorem fnS_of {f : FuncId} {fn : Func} {c : Code} {args : Array Value} {u : FrameMode} {X : Ending → FrameMode → Heap → Prop} (n : Nat) (hf : P.funcs[f]? = some fn) (hb : fn.body = some c)
    (hn : fn.ntmps = n) (ha : args.size ≤ n) (H : CwS P n c (fnQS P fn X) u (argsFr args.toList 0) h) : FxD P f args u h X := by
  intro w hw
  refine callsD_of_wpS hf hb fun c0 cs hc => wpS_mono (H.run c0 cs w _ w hc (begin_hold hn ha) (SameEnv.refl w) hw) ?_
  rintro e a cs' w' ⟨u', fr', rfl, hF', hs, hq⟩
  cases e with
  | normal =>
    obtain ⟨v, hR, hr⟩ := results_run (R := fun v => X (.returned v) u' w'.heap) hF' hq
    exact ⟨hF'.defers, u', rfl, v, hr, hs, hR⟩
  | ret =>
    obtain ⟨v, hR, hr⟩ := results_run (R := fun v => X (.returned v) u' w'.heap) hF' hq
    exact ⟨hF'.defers, u', rfl, v, hr, hs, hR⟩
  | panic c => exact ⟨hF'.defers, u', rfl, hs, hq⟩
  | _ => exact hq.elim
end
end Go.Proofs.YtdielfpgekenkaaGreatDoor.Vm
namespace Go.Proofs.YtdielfpgekenkaaGreatDoor.Vm
open Go
set_option linter.unusedSimpArgs false
set_option linter.unusedVariables false
section
variable {P : Program} {n : Nat} {Q : Exit → Fr → Heap → Prop} {fr : Fr} {h : Heap} {ds : List Deferred}
def evX1 (P : Program) (all : List Oper) : List Oper → List Deferred → Fr → Heap → (List Deferred → Fr → Heap → Prop) → Prop
  | [], ds, fr, h, K => K ds fr h
  | o :: r, ds, fr, h, K => gk all o fr
      (match o.op with
        | .defer c => match c.callee with
          | .value f => evk fr f fun fv => match fv with
            | .func g first cap => ∃ vs, evs fr c.args.toList = some vs ∧ evX1 P all r ({ target := .fn g cap, args := first ++ vs.toArray } :: ds) (put fr o.dst undef) h K
            | _ => False
          | _ => False
        | _ => opx P o fr h fun v h' => evX1 P all r ds (put fr o.dst v) h' K)
      (evX1 P all r ds (put fr o.dst undef) h K)
theorem evX1_sound {all : List Oper} {Q : Exit → Act → World → Prop} {K : List Deferred → Fr → Heap → Prop} : ∀ (l : List Oper), (∀ o ∈ l, dok n o.dst) → ∀ (ds : List Deferred) (fr : Fr) (h : Heap) (a : Act) (w : World),
    evX1 P all l ds fr h K → Hold ds n fr a → w.heap = h → (∀ ds' fr' a' w', Hold ds' n fr' a' → SameEnv w w' → K ds' fr' w'.heap → Q .normal a' w') → wpList P all.toArray Q l a w
  | [], _, ds, fr, h, a, w, H, hF, hw, hQ => hQ ds fr a w hF (SameEnv.refl w) (hw ▸ H)
  | o :: r, hd, ds, fr, h, a, w, H, hF, hw, hQ => by
    unfold evX1 at H
    unfold wpList
    rcases gk_elim H hF with ⟨hg, H⟩ | ⟨hg, H⟩
    · rw [if_pos hg]
      refine .inl ?_
      split at H
      · rename_i c ho
        split at H
        · rename_i f hc
          obtain ⟨fv, hfv, H⟩ := evk_elim H
          split at H
          · rename_i g first cap
            obtain ⟨vs, hvs, H⟩ := H
            have e1 : c.args.map a.eval = vs.toArray := by
              apply Array.ext'
              simpa using mapM_evs hF c.args.toList vs hvs
            have hex : (execOp a.eval o).run P w = .ok (.defer { target := .fn g cap, args := first ++ vs.toArray }) w := by
              simp [execOp, ho, resolve, hc, hF.ev hfv, Deferred.ofValue, e1]
            unfold Oper.wp
            rw [hex]
            have hF' : Hold ({ target := .fn g cap, args := first ++ vs.toArray } :: ds) n fr { a with defers := { target := .fn g cap, args := first ++ vs.toArray } :: a.defers } := ⟨hF.size, by simp [hF.defers], hF.has⟩
            exact evX1_sound r (fun o ho => hd o (by simp [ho])) _ _ _ _ w H (hF'.put _ _ (hd o (by simp))) hw hQ
          · exact H.elim
        · exact H.elim
      · refine wp_of_comes (opx_sound hF H hw) fun v w' hs hk => ?_
        exact evX1_sound r (fun o ho => hd o (by simp [ho])) _ _ _ _ w' hk (hF.put _ _ (hd o (by simp))) rfl (fun ds' fr' a' w'' h1 h2 h3 => hQ ds' fr' a' w'' h1 (hs.trans h2) h3)
    · rw [if_neg (by simp [hg])]
      exact evX1_sound r (fun o ho => hd o (by simp [ho])) _ _ _ _ w H (hF.put _ _ (hd o (by simp))) hw hQ
theorem cwx_go1 {id : Nat} {ops : Array Oper} {Q : List Deferred → Exit → Fr → Heap → Prop} (hd : dstsB n ops.toList = true) (H : evX1 P ops.toList ops.toList ds fr h fun ds fr h => Q ds .normal fr h) : CwX P n (.region id ops false) Q ds fr h :=
  ⟨fun w0 a w hF hs hw => wp_region_list (by
    have := evX1_sound (n := n) (Q := fun e a w => ∃ ds fr, Hold ds n fr a ∧ SameEnv w0 w ∧ Q ds e fr w.heap) ops.toList (fun o ho => dok_of hd ho) ds fr h a w H hF hw (fun ds' fr' a' w' hF' hs' hk => ⟨ds', fr', hF', hs.trans hs', hk⟩)
    simpa using this)⟩
def evS1 (P : Program) (all : List Oper) : List Oper → FrameMode → Fr → Heap → (FrameMode → Fr → Heap → Prop) → Prop
  | [], u, fr, h, K => K u fr h
  | o :: r, u, fr, h, K => gk all o fr
        (match isRec o with
          | true => match recU u with
            | some (v, u') => evS1 P all r u' (put fr o.dst v) h K
            | none => evS1 P all r u (put fr o.dst .nilIface) h K
          | false => opx P o fr h fun v h' => evS1 P all r u (put fr o.dst v) h' K)
        (evS1 P all r u (put fr o.dst undef) h K)
theorem evS1_sound {all : List Oper} {Q : Exit → Act → List Frame → World → Prop} {K : FrameMode → Fr → Heap → Prop} (c0 : Frame) (cs : List Frame) (hd : ∀ o ∈ all, dok n o.dst) : ∀ (l : List Oper) (i : Nat), (∀ j : Nat, l[j]? = all[i + j]?) → ∀ (u : FrameMode) (fr : Fr) (h : Heap) (a : Act) (w : World),
    evS1 P all l u fr h K → Hold [] n fr a → w.heap = h → (∀ u' fr' a' w', Hold [] n fr' a' → SameEnv w w' → K u' fr' w'.heap → Q .normal a' ({ c0 with mode := u' } :: cs) w') → wpOpsS P all.toArray Q ((List.range l.length).map (i + ·)) a ({ c0 with mode := u } :: cs) w
  | [], i, _, u, fr, h, a, w, H, hF, hw, hQ => hQ u fr a w hF (SameEnv.refl w) (hw ▸ H)
  | o :: r, i, hl, u, fr, h, a, w, H, hF, hw, hQ => by
    have ho : all[i]? = some o := by simpa using (hl 0).symm
    have hl' : ∀ j : Nat, r[j]? = all[i + 1 + j]? := fun j => by have := hl (j + 1); simpa [Nat.add_assoc, Nat.add_comm 1 j] using this
    have er : (List.range (o :: r).length).map (i + ·) = i :: (List.range r.length).map (i + 1 + ·) := by
      rw [List.length_cons, List.range_succ_eq_map, List.map_cons, List.map_map]
      congr 1
      apply List.map_congr_left
      intro j _
      simp only [Function.comp]; omega
    rw [er]
    unfold evS1 at H
    unfold wpOpsS
    have ho' : all.toArray[i]? = some o := by simpa using ho
    have hdo := hd o (List.mem_of_getElem? ho)
    simp only [ho']
    rcases gk_elim H hF with ⟨hg, H⟩ | ⟨hg, H⟩
    · rw [if_pos hg]
      cases hr : isRec o with
      | true =>
        simp only [hr] at H
        have hex : (execOp a.eval o).run P w = .ok .recover w := by
          unfold isRec at hr
          split at hr
          · rename_i c hc
            split at hr
            · rename_i hb
              simp [execOp, hc, resolve, hb, invoke, builtin]
            · cases hr
          · cases hr
        rw [hex]
        simp only [recoverD_recU]
        cases hu : recU u with
        | none =>
          simp only [hu] at H
          exact evS1_sound c0 cs hd r (i + 1) hl' _ _ _ _ w H (hF.put _ _ hdo) hw hQ
        | some x =>
          obtain ⟨v, u'⟩ := x
          simp only [hu] at H
          exact evS1_sound c0 cs hd r (i + 1) hl' _ _ _ _ w H (hF.put _ _ hdo) hw hQ
      | false =>
        simp only [hr] at H
        have hc := opx_sound hF H hw
        generalize (execOp a.eval o).run P w = res at *
        cases res with
        | halt x w' => exact hc.elim
        | ok nx w' =>
          cases nx <;> simp only [Comes'] at hc <;> simp only [Oper.upon]
          case value v => exact evS1_sound c0 cs hd r (i + 1) hl' _ _ _ _ w' hc.2 (hF.put _ _ hdo) rfl (fun u' fr' a' w'' h1 h2 h3 => hQ u' fr' a' w'' h1 (hc.1.trans h2) h3)
          case skip => exact evS1_sound c0 cs hd r (i + 1) hl' _ _ _ _ w' hc.2 (hF.put _ _ hdo) rfl (fun u' fr' a' w'' h1 h2 h3 => hQ u' fr' a' w'' h1 (hc.1.trans h2) h3)
          case enter f args =>
            obtain ⟨rfl, hc⟩ := hc
            refine hc.mono ?_
            rintro e w'' ⟨v, rfl, hs, hk⟩
            exact evS1_sound c0 cs hd r (i + 1) hl' _ _ _ _ w'' hk (hF.put _ _ hdo) rfl (fun u' fr' a' w'' h1 h2 h3 => hQ u' fr' a' w'' h1 (hs.trans h2) h3)
    · rw [if_neg (by simp [hg])]
      exact evS1_sound c0 cs hd r (i + 1) hl' _ _ _ _ w H (hF.put _ _ hdo) hw hQ
theorem cws_go1 {id : Nat} {ops : Array Oper} {Q : FrameMode → Exit → Fr → Heap → Prop} {u : FrameMode} (hd : dstsB n ops.toList = true) (H : evS1 P ops.toList ops.toList u fr h fun u fr h => Q u .normal fr h) : CwS P n (.region id ops false) Q u fr h :=
  ⟨fun c0 cs w0 a w hc hF hs hw => wpS_region (by
    have e : c0 = { c0 with mode := u } := by subst hc; rfl
    have := evS1_sound (n := n) (Q := fun e a cs' w' => ∃ u' fr', cs' = { c0 with mode := u' } :: cs ∧ Hold [] n fr' a ∧ SameEnv w0 w' ∧ Q u' e fr' w'.heap) c0 cs (fun o ho => dok_of hd ho) ops.toList 0 (fun j => by simp) u fr h a w H hF hw
      (fun u' fr' a' w' hF' hs' hk => ⟨u', fr', rfl, hF', hs.trans hs', hk⟩)
    rw [← e] at this
    simpa using this)⟩
end
end Go.Proofs.YtdielfpgekenkaaGreatDoor.Vm
namespace Go.Proofs.YtdielfpgekenkaaGreatDoor.Sx
open Go Vm
set_option linter.unusedSimpArgs false
set_option linter.unusedVariables false
def okFn (C : Cx) (f : Nat) (fn : Func) : Bool :=
  fn.name != "runtime.NumGoroutine" && match fn.body with
    | some c => okCode C f fn.ntmps c
    | none => true
/-- the functions that the evaluator knows are the program's, and their regions are as its table says; its hooks are true -/
structure FnOk (C : Cx) : Prop where
  mixed : C.P.follows .mixedOrders = true
  fn : ∀ f fn, C.fn.get f = some fn → C.P.funcs[f]? = some fn ∧ okFn C f fn = true
  hook : ∀ f k, C.hook f = some k → ∀ args st s st', k args st = some (s, st') → ∀ (σ : Env) (h : Heap) (vs : List Value), Rep C.ng st σ h → denL σ args = some vs → Fx C.P f vs.toArray h fun v h' => ∃ σ', den σ' s = some v ∧ Goes C.ng st σ h st' σ' h'
/-- what is deferred -/
def dsR (σ : Env) : List SD → List Deferred → Prop
  | [], [] => True
  | d :: ds, x :: xs => (∃ a1 cs, denL σ d.args = some a1 ∧ denL σ d.cap = some cs ∧ x = { target := .fn (.func d.g) cs.toArray, args := a1.toArray }) ∧ dsR σ ds xs
  | _, _ => False
theorem dsR.mono {σ τ : Env} (h : Pre σ τ) : ∀ (ds : List SD) (xs : List Deferred), dsR σ ds xs → dsR τ ds xs
  | [], [], _ => trivial
  | [], _ :: _, H => H.elim
  | _ :: _, [], H => H.elim
  | d :: ds, x :: xs, ⟨⟨a1, cs, h1, h2, h3⟩, H⟩ => ⟨⟨a1, cs, denL_mono h _ _ h1, denL_mono h _ _ h2, h3⟩, dsR.mono h ds xs H⟩
section
variable {C : Cx} (hC : CxOk C) (hN : FnOk C) {β : Type} {r : β}
include hC in
theorem opsX_ok {call : Nat → List SV → St → Option (SV × St)} (hcall : CallOk C call) {all : List Oper} : ∀ (l : List Oper) (ds : List SD) (xs : List Deferred) (sf : SF) (st : St) (σ : Env) (fr : Fr) (h : Heap) (k : List SD → SF → St → Option β), C.opsX call all l ds sf st k = some r → dsR σ ds xs → Frm σ sf fr → Rep C.ng st σ h →
    ∀ K : List Deferred → Fr → Heap → Prop, (∀ ds' xs' sf' st' σ' fr' h', k ds' sf' st' = some r → dsR σ' ds' xs' → Frm σ' sf' fr' → Goes C.ng st σ h st' σ' h' → K xs' fr' h') → Vm.evX1 C.P all l xs fr h K
  | [], ds, xs, sf, st, σ, fr, h, k, e, hD, hF, H, K, hK => hK ds xs sf st σ fr h e hD hF (Goes.refl H)
  | o :: l, ds, xs, sf, st, σ, fr, h, k, e, hD, hF, H, K, hK => by
    unfold Cx.opsX at e
    unfold Vm.evX1
    refine gk_ok hF e (fun e => ?_) (fun e => ?_)
    · split at e
      · rename_i c ho
        split at e
        · rename_i f hc
          simp only [Option.bind_eq_some_iff] at e
          obtain ⟨fv, hf, e⟩ := e
          obtain ⟨u, u1, u2⟩ := evO_ok hF hf
          split at e
          · rename_i g first cap
            simp only [Option.bind_eq_some_iff] at e
            obtain ⟨vs, hvs, e⟩ := e
            obtain ⟨us, v1, v2⟩ := evOs_ok hF _ _ hvs
            obtain ⟨x, y, h1, h2, rfl⟩ := den_f u2
            obtain ⟨sf', e, hF'⟩ := hF.put (den_undef σ) e
            try simp only [ho]
            try simp only [hc]
            simp only [evk_of u1]
            refine ⟨us, v1, opsX_ok hcall l _ _ sf' st σ _ h k e (by exact ⟨⟨_, _, denL_append _ _ _ _ h1 v2, h2, by simp⟩, hD⟩) hF' H K hK⟩
          · cases e
        · cases e
      · rename_i hnd
        have hX : Vm.opx C.P o fr h fun v h' => Vm.evX1 C.P all l xs (Vm.put fr o.dst v) h' K := by
          refine opx_ok hC hcall hF H e fun s st' σ' v h' e hv hG => ?_
          obtain ⟨sf', e, hF'⟩ := (hF.mono hG.pre).put hv e
          exact opsX_ok hcall l ds xs sf' st' σ' _ h' k e (dsR.mono hG.pre _ _ hD) hF' hG.rep K fun ds2 xs2 sf2 st2 σ2 fr2 h2 e2 hD2 hF2 hG2 => hK ds2 xs2 sf2 st2 σ2 fr2 h2 e2 hD2 hF2 (hG.trans hG2)
        split
        · rename_i c ho; exact absurd ho (hnd c)
        · exact hX
    · obtain ⟨sf', e, hF'⟩ := hF.put (den_undef σ) e
      exact opsX_ok hcall l ds xs sf' st σ _ h k e hD hF' H K hK
include hC in
theorem opsR_ok {call : Nat → List SV → St → Option (SV × St)} (hcall : CallOk C call) {all : List Oper} : ∀ (l : List Oper) (sf : SF) (st : St) (σ : Env) (fr : Fr) (h : Heap) (k : SF → St → Option β), C.opsR call all l sf st k = some r → Frm σ sf fr → Rep C.ng st σ h →
    ∀ K : FrameMode → Fr → Heap → Prop, (∀ sf' st' σ' fr' h', k sf' st' = some r → Frm σ' sf' fr' → Goes C.ng st σ h st' σ' h' → K .returning fr' h') → Vm.evS1 C.P all l .returning fr h K
  | [], sf, st, σ, fr, h, k, e, hF, H, K, hK => hK sf st σ fr h e hF (Goes.refl H)
  | o :: l, sf, st, σ, fr, h, k, e, hF, H, K, hK => by
    unfold Cx.opsR at e
    unfold Vm.evS1
    refine gk_ok hF e (fun e => ?_) (fun e => ?_)
    · have hrec : isRecS o = Vm.isRec o := rfl
      rw [← hrec]
      split at e
      · rename_i hr
        simp only [hr]
        obtain ⟨sf', e, hF'⟩ := hF.put (s := .nifc) (v := .nilIface) rfl e
        exact opsR_ok hcall l sf' st σ _ h k e hF' H K hK
      · rename_i hr
        simp only [hr]
        refine opx_ok hC hcall hF H e fun s st' σ' v h' e hv hG => ?_
        obtain ⟨sf', e, hF'⟩ := (hF.mono hG.pre).put hv e
        exact opsR_ok hcall l sf' st' σ' _ h' k e hF' hG.rep K fun sf2 st2 σ2 fr2 h2 e2 hF2 hG2 => hK sf2 st2 σ2 fr2 h2 e2 hF2 (hG.trans hG2)
    · obtain ⟨sf', e, hF'⟩ := hF.put (den_undef σ) e
      exact opsR_ok hcall l sf' st σ _ h k e hF' H K hK
include hC hN in
theorem codeX_ok {call : Nat → List SV → St → Option (SV × St)} (hcall : CallOk C call) {f n fuel : Nat} : ∀ (c : Code) (ds : List SD) (xs : List Deferred) (sf : SF) (st : St) (σ : Env) (fr : Fr) (h : Heap) (k : SX → List SD → SF → St → Option β), okCode C f n c = true → C.codeX call f fuel c ds sf st k = some r → dsR σ ds xs → Frm σ sf fr → Rep C.ng st σ h →
    ∀ Q : List Deferred → Exit → Fr → Heap → Prop, (∀ e ds' xs' sf' st' σ' fr' h', k e ds' sf' st' = some r → dsR σ' ds' xs' → Frm σ' sf' fr' → Goes C.ng st σ h st' σ' h' → Q xs' (exOf e) fr' h') → CwX C.P n c Q xs fr h := by
  intro c
  have base : ∀ (c : Code) (ds : List SD) (xs : List Deferred) (sf : SF) (st : St) (σ : Env) (fr : Fr) (h : Heap) (k : SX → List SD → SF → St → Option β), okCode C f n c = true → (C.code call f fuel c sf st fun e fr st => k e ds fr st) = some r → dsR σ ds xs → Frm σ sf fr → Rep C.ng st σ h →
      ∀ Q : List Deferred → Exit → Fr → Heap → Prop, (∀ e ds' xs' sf' st' σ' fr' h', k e ds' sf' st' = some r → dsR σ' ds' xs' → Frm σ' sf' fr' → Goes C.ng st σ h st' σ' h' → Q xs' (exOf e) fr' h') → CwX C.P n c Q xs fr h :=
    fun c ds xs sf st σ fr h k hok e hD hF H Q hQ => cwx_of (code_ok hC hN.mixed hcall c sf st σ fr h _ hok e hF H _ fun x sf' st' σ' fr' h' e hF' hG => hQ x ds xs sf' st' σ' fr' h' e (dsR.mono hG.pre _ _ hD) hF' hG)
  induction c with
  | seq a b iha ihb =>
    intro ds xs sf st σ fr h k hok e hD hF H Q hQ
    simp only [okCode, Bool.and_eq_true] at hok
    refine cwx_seq (iha ds xs sf st σ fr h _ hok.1 e hD hF H _ fun x ds' xs' sf' st' σ' fr' h' e hD' hF' hG => ?_)
    cases x with
    | normal => exact ihb ds' xs' sf' st' σ' fr' h' k hok.2 e hD' hF' hG.rep Q fun y ds2 xs2 sf2 st2 σ2 fr2 h2 e2 hD2 hF2 hG2 => hQ y ds2 xs2 sf2 st2 σ2 fr2 h2 e2 hD2 hF2 (hG.trans hG2)
    | exit id => exact hQ (.exit id) ds' xs' sf' st' σ' fr' h' e hD' hF' hG
    | ret => exact hQ .ret ds' xs' sf' st' σ' fr' h' e hD' hF' hG
  | region id ops draw =>
    intro ds xs sf st σ fr h k hok e hD hF H Q hQ
    cases draw with
    | true => exact base _ ds xs sf st σ fr h k hok e hD hF H Q hQ
    | false =>
      simp only [okCode, okRegion, Bool.and_eq_true] at hok
      exact cwx_go1 hok.1 (opsX_ok hC hcall ops.toList ds xs sf st σ fr h _ e hD hF H _ fun ds' xs' sf' st' σ' fr' h' e hD' hF' hG => hQ .normal ds' xs' sf' st' σ' fr' h' e hD' hF' hG)
  | _ =>
    intro ds xs sf st σ fr h k hok e hD hF H Q hQ
    exact base _ ds xs sf st σ fr h k hok e hD hF H Q hQ
include hC hN in
theorem codeS_ok {call : Nat → List SV → St → Option (SV × St)} (hcall : CallOk C call) {f n fuel : Nat} : ∀ (c : Code) (sf : SF) (st : St) (σ : Env) (fr : Fr) (h : Heap) (k : SX → SF → St → Option β), okCode C f n c = true → C.codeS call f fuel c sf st k = some r → Frm σ sf fr → Rep C.ng st σ h →
    ∀ Q : FrameMode → Exit → Fr → Heap → Prop, (∀ e sf' st' σ' fr' h', k e sf' st' = some r → Frm σ' sf' fr' → Goes C.ng st σ h st' σ' h' → Q .returning (exOf e) fr' h') → CwS C.P n c Q .returning fr h := by
  intro c
  have base : ∀ (c : Code) (sf : SF) (st : St) (σ : Env) (fr : Fr) (h : Heap) (k : SX → SF → St → Option β), okCode C f n c = true → C.code call f fuel c sf st k = some r → Frm σ sf fr → Rep C.ng st σ h →
      ∀ Q : FrameMode → Exit → Fr → Heap → Prop, (∀ e sf' st' σ' fr' h', k e sf' st' = some r → Frm σ' sf' fr' → Goes C.ng st σ h st' σ' h' → Q .returning (exOf e) fr' h') → CwS C.P n c Q .returning fr h :=
    fun c sf st σ fr h k hok e hF H Q hQ => cws_of (code_ok hC hN.mixed hcall c sf st σ fr h _ hok e hF H _ fun x sf' st' σ' fr' h' e hF' hG => hQ x sf' st' σ' fr' h' e hF' hG)
  induction c with
  | seq a b iha ihb =>
    intro sf st σ fr h k hok e hF H Q hQ
    simp only [okCode, Bool.and_eq_true] at hok
    refine cws_seq (iha sf st σ fr h _ hok.1 e hF H _ fun x sf' st' σ' fr' h' e hF' hG => ?_)
    cases x with
    | normal => exact ihb sf' st' σ' fr' h' k hok.2 e hF' hG.rep Q fun y sf2 st2 σ2 fr2 h2 e2 hF2 hG2 => hQ y sf2 st2 σ2 fr2 h2 e2 hF2 (hG.trans hG2)
    | exit id => exact hQ (.exit id) sf' st' σ' fr' h' e hF' hG
    | ret => exact hQ .ret sf' st' σ' fr' h' e hF' hG
  | region id ops draw =>
    intro sf st σ fr h k hok e hF H Q hQ
    cases draw with
    | true => exact base _ sf st σ fr h k hok e hF H Q hQ
    | false =>
      simp only [okCode, okRegion, Bool.and_eq_true] at hok
      exact cws_go1 hok.1 (opsR_ok hC hcall ops.toList sf st σ fr h _ e hF H _ fun sf' st' σ' fr' h' e hF' hG => hQ .normal sf' st' σ' fr' h' e hF' hG)
  | _ =>
    intro sf st σ fr h k hok e hF H Q hQ
    exact base _ sf st σ fr h k hok e hF H Q hQ
theorem plain_of {P : Program} {g : Nat} {fn : Func} {c : Code} (hf : P.funcs[g]? = some fn) (hb : fn.body = some c) (hn : (fn.name != "runtime.NumGoroutine") = true) : plain P g = true := by
  unfold plain
  simp only [hf, hb]
  simpa using hn
include hC hN in
theorem runD_ok {call : Nat → List SV → St → Option (SV × St)} (hcall : CallOk C call) {fuel g : Nat} {args : List SV} {vs : List Value} {st : St} {σ : Env} {h : Heap} {k : St → Option β} (e : C.runD call fuel g args st k = some r) (H : Rep C.ng st σ h) (hv : denL σ args = some vs) :
    plain C.P g = true ∧ FxD C.P g vs.toArray .returning h fun x u h' => ∃ v, x = .returned v ∧ u = .returning ∧ ∃ st' σ', k st' = some r ∧ Goes C.ng st σ h st' σ' h' := by
  unfold Cx.runD at e
  simp only [Option.bind_eq_some_iff] at e
  obtain ⟨fn, hfn, c, hb, e⟩ := e
  obtain ⟨hf, hok⟩ := hN.fn g fn hfn
  unfold okFn at hok
  simp only [hb, Bool.and_eq_true] at hok
  split at e
  · rename_i hle
    obtain ⟨sf, e, hF⟩ := args_ok hv H.glob e
    refine ⟨plain_of hf hb hok.1, fnS_of fn.ntmps hf hb rfl ?_ ?_⟩
    · simpa [denL_length _ _ hv] using hle
    · refine codeS_ok hC hN hcall c sf st σ _ h _ hok.2 e hF H _ fun x sf' st' σ' fr' h' e hF' hG => ?_
      cases x with
      | exit id => cases e
      | normal =>
        simp only [Option.bind_eq_some_iff] at e
        obtain ⟨ls, hls, e⟩ := e
        obtain ⟨vs', _, hk⟩ := resS_ok hC hF' (hG.rep.obs (Pre.refl _)) _ _ hls
        exact hk _ ⟨_, rfl, rfl, st', σ', e, hG⟩
      | ret =>
        simp only [Option.bind_eq_some_iff] at e
        obtain ⟨ls, hls, e⟩ := e
        obtain ⟨vs', _, hk⟩ := resS_ok hC hF' (hG.rep.obs (Pre.refl _)) _ _ hls
        exact hk _ ⟨_, rfl, rfl, st', σ', e, hG⟩
  · cases e
include hC hN in
theorem leave_ok {call : Nat → List SV → St → Option (SV × St)} (hcall : CallOk C call) {fuel : Nat} {fn : Func} {R E : Value → Heap → Prop} {fr : Fr} : ∀ (ds : List SD) (xs : List Deferred) (st : St) (σ : Env) (h : Heap) (k : St → Option β), C.leave call fuel ds st k = some r → dsR σ ds xs → Rep C.ng st σ h →
    (∀ st' σ' h', k st' = some r → Goes C.ng st σ h st' σ' h' → LeavesH C.P fn R E fr [] .returning h') → LeavesH C.P fn R E fr xs .returning h
  | [], [], st, σ, h, k, e, hD, H, hK => hK st σ h e (Goes.refl H)
  | [], _ :: _, _, _, _, _, _, hD, _, _ => hD.elim
  | _ :: _, [], _, _, _, _, _, hD, _, _ => hD.elim
  | d :: ds, x :: xs, st, σ, h, k, e, ⟨⟨a1, cs, h1, h2, hx⟩, hD⟩, H, hK => by
    subst hx
    unfold Cx.leave at e
    obtain ⟨hp, hX⟩ := runD_ok hC hN hcall e H (denL_append _ _ _ _ h1 h2)
    have ha : a1.toArray ++ cs.toArray = (a1 ++ cs).toArray := by simp
    refine ⟨d.g, cs.toArray, rfl, hp, by simp, _, by rw [ha]; exact hX, ?_⟩
    rintro x' u' h' hq
    obtain ⟨v, hq⟩ := hq
    obtain ⟨hv, hu, st', σ', e, hG⟩ := hq
    subst hv hu
    exact leave_ok hcall ds xs st' σ' h' k e (dsR.mono hG.pre _ _ hD) hG.rep fun st2 σ2 h2 e2 hG2 => hK st2 σ2 h2 e2 (hG.trans hG2)
include hC hN in
/-- THE EVALUATOR IS THE MODEL. -/
theorem run_ok : ∀ n, CallOk C (C.run n)
  | 0 => fun g args st s st' e => by simp [Cx.run] at e
  | n + 1 => fun g args st s st' e σ h vs H hv => by
    have ih := run_ok n
    unfold Cx.run at e
    split at e
    · rename_i hk hh
      exact hN.hook g hk hh args st s st' e σ h vs H hv
    · simp only [Option.bind_eq_some_iff] at e
      obtain ⟨fn, hfn, e⟩ := e
      obtain ⟨hf, hok⟩ := hN.fn g fn hfn
      split at e
      · -- the library's own
        unfold Cx.outer at e
        simp only [Option.bind_eq_some_iff] at e
        obtain ⟨us, hus, nx, hnx, e⟩ := e
        have := toVs_den _ _ _ hus hv
        subst this
        split at e
        · rename_i v
          simp only [Option.bind_eq_some_iff] at e
          obtain ⟨sv, hsv, e⟩ := e
          rw [forceV_eq] at e
          cases e
          refine .inr fun w hw => ⟨v, w, pureRun_ok _ _ hnx w, SameEnv.refl w, σ, ofV_den σ v _ hsv, ?_⟩
          subst hw
          exact Goes.refl H
        · cases e
      · rename_i c hb
        unfold okFn at hok
        simp only [hb, Bool.and_eq_true] at hok
        have hpl := plain_of hf hb hok.1
        split at e
        · rename_i hle
          have hle' : vs.toArray.size ≤ fn.ntmps := by simpa [denL_length _ _ hv] using hle
          split at e
          · obtain ⟨sf, e, hF⟩ := args_ok hv H.glob e
            refine fn_of fn.ntmps hf hb hpl rfl hle' ?_
            refine code_ok hC hN.mixed ih c sf st σ _ h _ hok.2 e hF H _ fun x sf' st2 σ' fr' h' e hF' hG => ?_
            cases x with
            | exit id => cases e
            | normal =>
              simp only [Option.bind_eq_some_iff, forceV_eq, Option.some.injEq, Prod.mk.injEq] at e
              obtain ⟨ls, hls, rfl, rfl⟩ := e
              obtain ⟨vs', hd, hk⟩ := resS_ok hC hF' (hG.rep.obs (Pre.refl _)) _ _ hls
              exact hk _ ⟨σ', one_ok hd, hG⟩
            | ret =>
              simp only [Option.bind_eq_some_iff, forceV_eq, Option.some.injEq, Prod.mk.injEq] at e
              obtain ⟨ls, hls, rfl, rfl⟩ := e
              obtain ⟨vs', hd, hk⟩ := resS_ok hC hF' (hG.rep.obs (Pre.refl _)) _ _ hls
              exact hk _ ⟨σ', one_ok hd, hG⟩
          · obtain ⟨sf, e, hF⟩ := args_ok hv H.glob e
            refine FxE.fx (fnX_of fn.ntmps hf hb hpl rfl hle' ?_)
            refine codeX_ok hC hN ih c [] [] sf st σ _ h _ hok.2 e trivial hF H _ fun x ds' xs' sf' st2 σ' fr' h' e hD' hF' hG => ?_
            have fin : ∀ st3 σ3 h3, ((C.resS sf' st3 fn.results.toList).bind fun l => forceV (oneS l) fun v => some (v, st3)) = some (s, st') → Goes C.ng st2 σ' h' st3 σ3 h3 →
                LeavesH C.P fn (fun v h' => ∃ σ', den σ' s = some v ∧ Goes C.ng st σ h st' σ' h') (fun _ _ => False) fr' [] .returning h3 := by
              intro st3 σ3 h3 e hG3
              simp only [Option.bind_eq_some_iff, forceV_eq, Option.some.injEq, Prod.mk.injEq] at e
              obtain ⟨ls, hls, rfl, rfl⟩ := e
              obtain ⟨vs', hd, hk⟩ := resS_ok hC (hF'.mono hG3.pre) (hG3.rep.obs (Pre.refl _)) _ _ hls
              exact hk _ ⟨σ3, one_ok hd, hG.trans hG3⟩
            cases x with
            | exit id => cases e
            | normal => exact leave_ok hC hN ih ds' xs' st2 σ' h' _ e hD' hG.rep fin
            | ret => exact leave_ok hC hN ih ds' xs' st2 σ' h' _ e hD' hG.rep fin
        · cases e
end
end Go.Proofs.YtdielfpgekenkaaGreatDoor.Sx
namespace Go.Proofs.YtdielfpgekenkaaGreatDoor.Sx
open Go Vm
set_option linter.unusedSimpArgs false
set_option linter.unusedVariables false
def wordOf : SV → Option Nat
  | .i .u32 (.ofNat n) => if Nat.blt n 4294967296 then some n else none
  | _ => none
def wordsS : List SV → Option (List Nat)
  | [] => some []
  | c :: r => (wordOf c).bind fun n => (wordsS r).map (n :: ·)
def forceU {α : Type} (x : UInt32) (k : SV → α) : α := forceN x.toNat fun n => k (.i .u32 (.ofNat n))
def hSha (args : List SV) (st : St) : Option (SV × St) :=
  match args with
  | [.agg ws, .agg bs] => (wordsS ws).bind fun ws => (bytesS bs).bind fun bs => match ws with
    | [a, b, c, d, e, f, g, h] => if bs.length = 64 then
        match Sha.compress ⟨UInt32.ofNat a, UInt32.ofNat b, UInt32.ofNat c, UInt32.ofNat d, UInt32.ofNat e, UInt32.ofNat f, UInt32.ofNat g, UInt32.ofNat h⟩ (bs.map UInt8.ofNat) with
        | ⟨a, b, c, d, e, f, g, h⟩ => forceU a fun a => forceU b fun b => forceU c fun c => forceU d fun d => forceU e fun e => forceU f fun f => forceU g fun g => forceU h fun h => some (.agg [a, b, c, d, e, f, g, h], st)
      else none
    | _ => none
  | _ => none
theorem wordsS_ok {σ : Env} : ∀ (l : List SV) (bs : List Nat) (vs : List Value), wordsS l = some bs → denL σ l = some vs → vs = bs.map fun n => u32v (UInt32.ofNat n)
  | [], bs, vs, e, hv => by
    simp only [wordsS, Option.some.injEq] at e
    simp only [denL, Option.some.injEq] at hv
    subst e hv; rfl
  | c :: r, bs, vs, e, hv => by
    simp only [wordsS, Option.bind_eq_some_iff, Option.map_eq_some_iff] at e
    obtain ⟨n, hn, ns, hns, rfl⟩ := e
    simp only [denL, Option.bind_eq_some_iff, Option.map_eq_some_iff] at hv
    obtain ⟨v, hv, us, hus, rfl⟩ := hv
    rw [wordsS_ok r ns us hns hus, List.map_cons]
    congr 1
    unfold wordOf at hn
    split at hn
    · rename_i m
      split at hn
      · rename_i hm
        cases hn
        have hm : n < 4294967296 := Nat.blt_eq.mp hm
        simp only [den, Option.some.injEq] at hv
        rw [← hv]
        unfold u32v
        rw [UInt32.toNat_ofNat_of_lt' hm]
        rfl
      · cases hn
    · cases hn
theorem u8_of {bs : List Nat} (h : bs.all (Nat.blt · 256) = true) : bs.map vbyte = (bs.map UInt8.ofNat).map u8v := by
  rw [List.map_map]
  apply List.map_congr_left
  intro b hb
  have hlt : b < 256 := by simpa using List.all_eq_true.1 h b hb
  simp only [Function.comp, vbyte, u8v, UInt8.toNat_ofNat_of_lt' hlt]
  rfl
theorem den_u (σ : Env) (x : UInt32) : den σ (.i .u32 (.ofNat x.toNat)) = some (u32v x) := rfl
theorem sha_ok {C : Cx} (hP : C.P = Tryz.prog) {args : List SV} {st st' : St} {s : SV} (e : hSha args st = some (s, st')) {σ : Env} {h : Heap} {vs : List Value} (H : Rep C.ng st σ h) (hv : denL σ args = some vs) :
    Fx C.P 528 vs.toArray h fun v h' => ∃ σ', den σ' s = some v ∧ Goes C.ng st σ h st' σ' h' := by
  rw [hP]
  unfold hSha at e
  split at e
  · rename_i ws bs
    simp only [Option.bind_eq_some_iff] at e
    obtain ⟨wl, hw, bl, hb, e⟩ := e
    simp only [denL, den, Option.bind_eq_some_iff, Option.map_eq_some_iff] at hv
    obtain ⟨_, ⟨wv, hwv, rfl⟩, _, ⟨_, ⟨bv, hbv, rfl⟩, _, h0, rfl⟩, rfl⟩ := hv
    cases h0
    have e1 := wordsS_ok ws wl wv hw hwv
    obtain ⟨e2, e3⟩ := bytesS_ok bs bl bv hb hbv
    rw [u8_of e2] at e3
    split at e
    · rename_i a b c d e' f g h'
      split at e
      · rename_i hl
        obtain ⟨X, hX⟩ : ∃ X : Sha.S8, X = ⟨UInt32.ofNat a, UInt32.ofNat b, UInt32.ofNat c, UInt32.ofNat d, UInt32.ofNat e', UInt32.ofNat f, UInt32.ofNat g, UInt32.ofNat h'⟩ := ⟨_, rfl⟩
        rw [← hX] at e
        have hq := compress_q X (bl.map UInt8.ofNat) (by simpa using hl) h h (ExtH.refl h)
        have e4 : wv = X.list.map u32v := by rw [e1, hX]; rfl
        rw [e4, e3]
        refine hq.mono ?_
        rintro v h2 ⟨rfl, hx⟩
        obtain ⟨Y, hY⟩ : ∃ Y, Sha.compress X (bl.map UInt8.ofNat) = Y := ⟨_, rfl⟩
        rw [hY] at e ⊢
        obtain ⟨ya, yb, yc, yd, ye, yf, yg, yh⟩ := Y
        simp only [forceU, forceN_eq] at e
        cases e
        refine ⟨σ, ?_, H.ext hx, Steps.ext _ _ _ hx, Nat.le_refl _, Nat.le_refl _⟩
        simp only [den, denL, Option.bind_some, Option.map_some]
        rfl
      · cases e
    · cases e
  · cases e
end Go.Proofs.YtdielfpgekenkaaGreatDoor.Sx
