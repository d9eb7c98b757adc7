/-
  Panics; deferred calls; recover.
  Functions; what they defer.
-/
import Derived.Test.YtkdmpdbbcgdfkaaGreatDoorJ7
import Derived.Recover
import Derived.Test.YtkdmpdbbcgdfkaaGreatDoorJ25
namespace Go.Proofs.YtkdmpdbbcgdfkaaGreatDoor.Vm
open Go
variable {ds : List Deferred}
set_option linter.unusedSimpArgs false
set_option linter.unusedVariables false
/-- a panic of a value -/
def pan (v : Value) : List PanicEntry := [{ v, recovered := false }]
/-- a function that returns with R, or panics with E -/
def FxE (P : Program) (f : FuncId) (args : Array Value) (h : Heap) (R E : Value → Heap → Prop) : Prop :=
  Fx P f args h R ∨ (plain P f = true ∧ ∀ w, w.heap = h → Calls P f args w (fun e w' => SameEnv w w' ∧ ((∃ v, e = .returned v ∧ R v w'.heap) ∨ ∃ v, e = .panicked (pan v) ∧ E v w'.heap)))
theorem FxE.mono {P : Program} {f : FuncId} {args : Array Value} {h : Heap} {R R' E E' : Value → Heap → Prop} (H : FxE P f args h R E) (hr : ∀ v h', R v h' → R' v h') (he : ∀ v h', E v h' → E' v h') : FxE P f args h R' E' := by
  rcases H with H | ⟨hp, H⟩
  · exact .inl (H.mono hr)
  · refine .inr ⟨hp, fun w hw => (H w hw).mono ?_⟩
    rintro e w' ⟨hs, ⟨v, e1, h1⟩ | ⟨v, e1, h1⟩⟩
    · exact ⟨hs, .inl ⟨v, e1, hr _ _ h1⟩⟩
    · exact ⟨hs, .inr ⟨v, e1, he _ _ h1⟩⟩
/-- one that never panics -/
theorem FxE.fx {P : Program} {f : FuncId} {args : Array Value} {h : Heap} {R : Value → Heap → Prop} (H : FxE P f args h R fun _ _ => False) : Fx P f args h R := by
  rcases H with H | ⟨hp, H⟩
  · exact H
  · refine .inl ⟨hp, fun w hw => (H w hw).mono ?_⟩
    rintro e w' ⟨hs, ⟨v, e1, h1⟩ | ⟨v, e1, h1⟩⟩
    · exact ⟨v, e1, hs, h1⟩
    · exact h1.elim
theorem run_callFunc {P : Program} {f : FuncId} (hp : plain P f = true) (args : Array Value) (w : World) : (callFunc f args).run P w = .ok (.enter f args) w := by
  unfold plain at hp
  split at hp
  · rename_i fn hfn
    simp only [Bool.and_eq_true, bne_iff_ne, ne_eq] at hp
    obtain ⟨body, hb⟩ := Option.isSome_iff_exists.1 hp.1
    simp [callFunc, hfn, hp.2, hb]
  · cases hp
def opE (P : Program) (o : Oper) (fr : Fr) (h : Heap) (k kp : Value → Heap → Prop) : Prop :=
  match o.op with
  | .panic x => evk fr x fun v => match v with
    | .iface t u => kp (.iface t u) h
    | _ => False
  | .call c => match c.callee with
    | .value f => evk fr f fun fv => match fv with
      | .func (.func f) first cap => ∃ vs, evs fr c.args.toList = some vs ∧ ∃ R E, FxE P f (first ++ vs.toArray ++ cap) h R E ∧ (∀ v h', R v h' → k v h') ∧ ∀ v h', E v h' → kp v h'
      | _ => False
    | _ => opx2 P o fr h k
  | _ => opx2 P o fr h k
theorem opE_sound {P : Program} {o : Oper} {fr : Fr} {h : Heap} {k kp : Value → Heap → Prop} {n : Nat} {a : Act} (hF : Hold ds n fr a) (H : opE P o fr h k kp) {w : World} (hw : w.heap = h) {K : Act → World → Prop} {Q : Exit → Act → World → Prop}
    (hK : ∀ v w', SameEnv w w' → k v w'.heap → K (a.put o.dst v) w') (hQ : ∀ v w', SameEnv w w' → kp v w'.heap → Q (.panic (pan v)) a w') : o.wp P a w K Q := by
  unfold opE at H
  split at H
  · rename_i x ho
    obtain ⟨v, hv, H⟩ := evk_elim H
    split at H
    · rename_i t u
      have : (execOp a.eval o).run P w = .halt (.panic (.iface t u)) w := by
        simp [execOp, ho, hF.ev hv, run_panic_iface]
      unfold Oper.wp
      rw [this]
      exact hQ _ w (SameEnv.refl w) (hw ▸ H)
    · exact H.elim
  · rename_i c ho
    split at H
    · rename_i f hc
      obtain ⟨fv, hfv, H⟩ := evk_elim H
      split at H
      · rename_i f' first cap
        obtain ⟨vs, hvs, R, E, hR, H1, H2⟩ := H
        have e1 : c.args.map a.eval = vs.toArray := by
          apply Array.ext'
          simpa using mapM_evs hF c.args.toList vs hvs
        have hex : (execOp a.eval o).run P w = (callFunc f' (first ++ vs.toArray ++ cap)).run P w := by
          simp [execOp, ho, resolve, hc, hF.ev hfv, Deferred.ofValue, invoke, e1]
        unfold Oper.wp
        rw [hex]
        rcases hR with (⟨hp, hR⟩ | hR) | ⟨hp, hR⟩
        · rw [run_callFunc hp]
          refine (hR w hw).mono ?_
          rintro e w' ⟨v, rfl, hs, hr⟩
          exact hK _ _ hs (H1 _ _ hr)
        · obtain ⟨v, w', hr, hs, hR⟩ := hR w hw
          rw [hr]
          exact hK _ _ hs (H1 _ _ hR)
        · rw [run_callFunc hp]
          refine (hR w hw).mono ?_
          rintro e w' ⟨hs, ⟨v, rfl, hr⟩ | ⟨v, rfl, hr⟩⟩
          · exact hK _ _ hs (H1 _ _ hr)
          · exact hQ _ _ hs (H2 _ _ hr)
      · exact H.elim
    · exact wp_of_comes (opx_sound hF (opx2_elim H) hw) hK
  · exact wp_of_comes (opx_sound hF (opx2_elim H) hw) hK
def evE (P : Program) (all : List Oper) (Kp : Value → Fr → Heap → Prop) : List Oper → Fr → Heap → (Fr → Heap → Prop) → Prop
  | [], fr, h, K => K fr h
  | o :: r, fr, h, K => gk all o fr (opE P o fr h (fun v h' => evE P all Kp r (put fr o.dst v) h' K) fun v h' => Kp v fr h') (evE P all Kp r (put fr o.dst undef) h K)
theorem evE_sound {P : Program} {n : Nat} {all : List Oper} {Q : Exit → Act → World → Prop} {K : Fr → Heap → Prop} {Kp : Value → Fr → Heap → Prop} : ∀ (l : List Oper), (∀ o ∈ l, dok n o.dst) → ∀ (fr : Fr) (h : Heap) (a : Act) (w : World),
    evE P all Kp l fr h K → Hold ds n fr a → w.heap = h → (∀ fr' a' w', Hold ds n fr' a' → SameEnv w w' → K fr' w'.heap → Q .normal a' w') →
    (∀ v fr' a' w', Hold ds n fr' a' → SameEnv w w' → Kp v fr' w'.heap → Q (.panic (pan v)) a' w') → wpList P all.toArray Q l a w
  | [], _, fr, h, a, w, H, hF, hw, hQ, _ => hQ fr a w hF (SameEnv.refl w) (hw ▸ H)
  | o :: r, hd, fr, h, a, w, H, hF, hw, hQ, hQp => by
    unfold evE at H
    unfold wpList
    rcases gk_elim H hF with ⟨hg, H⟩ | ⟨hg, H⟩
    · rw [if_pos hg]
      refine .inl (opE_sound hF H hw (fun v w' hs hk => ?_) fun v w' hs hk => hQp v fr a w' hF hs hk)
      exact evE_sound r (fun o ho => hd o (by simp [ho])) _ _ _ w' hk (hF.put _ _ (hd o (by simp))) rfl (fun fr' a' w'' h1 h2 h3 => hQ fr' a' w'' h1 (hs.trans h2) h3)
        (fun v fr' a' w'' h1 h2 h3 => hQp v fr' a' w'' h1 (hs.trans h2) h3)
    · rw [if_neg (by simp [hg])]
      exact evE_sound r (fun o ho => hd o (by simp [ho])) _ _ _ w H (hF.put _ _ (hd o (by simp))) hw hQ hQp
section
variable {P : Program} {n : Nat} {Q : Exit → Fr → Heap → Prop} {fr : Fr} {h : Heap}
theorem cw_goE {id : Nat} {ops : Array Oper} (hd : dstsB n ops.toList = true) (H : evE P ops.toList (fun v fr h => Q (.panic (pan v)) fr h) ops.toList fr h fun fr h => Q .normal fr h) : CwD ds P n (.region id ops false) Q fr h :=
  ⟨fun w0 a w hF hs hw => wp_region_list (by
    have := evE_sound (n := n) (Q := Post ds w0 n Q) ops.toList (fun o ho => dok_of hd ho) fr h a w H hF hw (fun fr' a' w' hF' hs' hk => ⟨fr', hF', hs.trans hs', hk⟩) (fun v fr' a' w' hF' hs' hk => ⟨fr', hF', hs.trans hs', hk⟩)
    simpa using this)⟩
theorem say_call {f : FuncId} {args : Array Value} {R : Value → Heap → Prop} {k kp : Value → Heap → Prop} (H : Fx P f args h R) (hk : ∀ v h', R v h' → k v h') :
    ∃ R E, FxE P f args h R E ∧ (∀ v h', R v h' → k v h') ∧ ∀ v h', E v h' → kp v h' := ⟨R, fun _ _ => False, .inl H, hk, fun _ _ h => h.elim⟩
theorem say_callE {f : FuncId} {args : Array Value} {R E : Value → Heap → Prop} {k kp : Value → Heap → Prop} (H : FxE P f args h R E) (hk : ∀ v h', R v h' → k v h') (hp : ∀ v h', E v h' → kp v h') :
    ∃ R E, FxE P f args h R E ∧ (∀ v h', R v h' → k v h') ∧ ∀ v h', E v h' → kp v h' := ⟨R, E, H, hk, hp⟩
def fnQE (P : Program) (fn : Func) (R E : Value → Heap → Prop) : Exit → Fr → Heap → Prop
  | .normal, fr, h => resL P fn.results.toList fr h fun vs => R (one vs) h
  | .ret, fr, h => resL P fn.results.toList fr h fun vs => R (one vs) h
  | .panic c, _, h => ∃ v, c = pan v ∧ E v h
  | _, _, _ => False
theorem begin_hold {fn : Func} {args : Array Value} (hn : fn.ntmps = n) (ha : args.size ≤ n) : Hold [] n (argsFr args.toList 0) { tmps := args ++ Array.replicate (fn.ntmps - args.size) undef, defers := [] } := by
  refine ⟨by simp [hn]; omega, rfl, fun t v hl => ?_⟩
  obtain ⟨_, h2⟩ := lk_argsFr _ _ _ _ hl
  simp only [Nat.sub_zero, Array.getElem?_toList] at h2
  obtain ⟨h3, h4⟩ := Array.getElem?_eq_some_iff.1 h2
  refine ⟨by omega, ?_⟩
  rw [Array.getD_eq_getD_getElem?, Array.getElem?_append_left h3, h2]
  rfl
/-- the end of a function that may panic -/
def EndE (R E : Value → Heap → Prop) (w0 : World) : Ending → World → Prop := fun e w => SameEnv w0 w ∧ ((∃ v, e = .returned v ∧ R v w.heap) ∨ ∃ v, e = .panicked (pan v) ∧ E v w.heap)
theorem bodyE {fn : Func} {c : Code} {R E : Value → Heap → Prop} {a : Act} {w : World} (hF : Hold [] n fr a) (H : Cw P n c (fnQE P fn R E) fr w.heap) : c.wp P (bodyPost P fn (EndE R E w)) a w := by
  refine Code.wp_mono ?_ (H.run w _ w hF (SameEnv.refl w) rfl)
  rintro e a w' ⟨fr, hF', hs, hq⟩
  cases e with
  | normal =>
    obtain ⟨v, hR, hr⟩ := results_run (R := fun v => R v w'.heap) hF' hq
    exact ⟨hF'.defers, v, hr, hs, .inl ⟨v, rfl, hR⟩⟩
  | ret =>
    obtain ⟨v, hR, hr⟩ := results_run (R := fun v => R v w'.heap) hF' hq
    exact ⟨hF'.defers, v, hr, hs, .inl ⟨v, rfl, hR⟩⟩
  | panic c =>
    obtain ⟨v, rfl, hE⟩ := hq
    exact ⟨hF'.defers, hs, .inr ⟨v, rfl, hE⟩⟩
  | _ => exact hq.elim
/-- FROM A BODY TO A CONTRACT, where it may panic -/
theorem fnE_of {f : FuncId} {fn : Func} {c : Code} {args : Array Value} {R E : Value → Heap → Prop} (n : Nat) (hf : P.funcs[f]? = some fn) (hb : fn.body = some c) (hp : plain P f = true)
    (hn : fn.ntmps = n) (ha : args.size ≤ n) (H : Cw P n c (fnQE P fn R E) (argsFr args.toList 0) h) : FxE P f args h R E :=
  .inr ⟨hp, fun w hw => calls_of_wp hf hb (bodyE (begin_hold hn ha) (hw ▸ H))⟩
/-! ### deferred calls -/
/-- the contract of a deferred function: u, the frame's mode below it -/
def FxD (P : Program) (f : FuncId) (args : Array Value) (u : FrameMode) (h : Heap) (X : Ending → FrameMode → Heap → Prop) : Prop :=
  ∀ w, w.heap = h → CallsD P f args u w fun e u' w' => SameEnv w w' ∧ X e u' w'.heap
theorem FxD.mono {f : FuncId} {args : Array Value} {u : FrameMode} {X Y : Ending → FrameMode → Heap → Prop} (H : FxD P f args u h X) (hx : ∀ e u h, X e u h → Y e u h) : FxD P f args u h Y :=
  fun w hw => (H w hw).mono fun _ _ _ ⟨a, b⟩ => ⟨a, hx _ _ _ b⟩
/-- what is deferred is carried out, the last first -/
def LeavesH (P : Program) (fn : Func) (R E : Value → Heap → Prop) (fr : Fr) : List Deferred → FrameMode → Heap → Prop
  | [], .returning, h => resL P fn.results.toList fr h fun vs => R (one vs) h
  | [], .panicking c, h => ∃ v, c = pan v ∧ E v h
  | [], .run, _ => False
  | d :: ds, u, h => ∃ g cap, d.target = .fn (.func g) cap ∧ plain P g = true ∧ u ≠ .run ∧ ∃ X, FxD P g (d.args ++ cap) u h X ∧ ∀ e u' h', X e u' h' → match e with
    | .returned _ => LeavesH P fn R E fr ds (settle u') h'
    | .panicked c => LeavesH P fn R E fr ds (raised u' c) h'
    | .outgrown => False
theorem leavesH_run {fn : Func} {R E : Value → Heap → Prop} {a : Act} {w0 : World} (hF : Hold ds n fr a) : ∀ (l : List Deferred) (u : FrameMode) (w : World), LeavesH P fn R E fr l u w.heap → SameEnv w0 w → Leaves P fn a.tmps (EndE R E w0) l u w
  | [], u, w, H, hs => by
    cases u with
    | run => exact H.elim
    | returning =>
      obtain ⟨v, hR, hr⟩ := results_run (R := fun v => R v w.heap) hF H
      exact ⟨v, hr, hs, .inl ⟨v, rfl, hR⟩⟩
    | panicking c =>
      obtain ⟨v, rfl, hE⟩ := H
      exact ⟨hs, .inr ⟨v, rfl, hE⟩⟩
  | d :: l, u, w, H, hs => by
    obtain ⟨g, cap, ht, hp, hu, X, hX, H⟩ := H
    refine ⟨hu, .func g, cap, g, d.args ++ cap, ht, ?_, (hX w rfl).mono ?_⟩
    · rw [ht]; simp only [invoke]; exact run_callFunc hp _ w
    · rintro e u' w' ⟨hs', hx⟩
      have := H _ _ _ hx
      cases e with
      | returned v => exact leavesH_run hF l _ w' this (hs.trans hs')
      | panicked c => exact leavesH_run hF l _ w' this (hs.trans hs')
      | outgrown => exact this.elim
/-- code that defers -/
structure CwX (P : Program) (n : Nat) (c : Code) (Q : List Deferred → Exit → Fr → Heap → Prop) (ds : List Deferred) (fr : Fr) (h : Heap) : Prop where
  run : ∀ w0 a w, Hold ds n fr a → SameEnv w0 w → w.heap = h → c.wp P (fun e a w => ∃ ds fr, Hold ds n fr a ∧ SameEnv w0 w ∧ Q ds e fr w.heap) a w
theorem cwx_of {c : Code} {Q : List Deferred → Exit → Fr → Heap → Prop} (H : CwD ds P n c (Q ds) fr h) : CwX P n c Q ds fr h :=
  ⟨fun w0 a w hF hs hw => Code.wp_mono (fun _ _ _ ⟨fr, h1, h2, h3⟩ => ⟨ds, fr, h1, h2, h3⟩) (H.run w0 a w hF hs hw)⟩
def thenX (N : List Deferred → Fr → Heap → Prop) (Q : List Deferred → Exit → Fr → Heap → Prop) : List Deferred → Exit → Fr → Heap → Prop
  | ds, .normal, fr, h => N ds fr h
  | ds, e, fr, h => Q ds e fr h
theorem cwx_seq {x y : Code} {Q : List Deferred → Exit → Fr → Heap → Prop} (H : CwX P n x (thenX (fun ds fr h => CwX P n y Q ds fr h) Q) ds fr h) : CwX P n (.seq x y) Q ds fr h :=
  ⟨fun w0 a w hF hs hw => wp_seq (Code.wp_mono (by
    rintro e a w ⟨ds, fr, hF, hs, hq⟩
    cases e with
    | normal => exact hq.run w0 a w hF hs rfl
    | _ => exact ⟨ds, fr, hF, hs, hq⟩) (H.run w0 a w hF hs hw))⟩
def evX (P : Program) (all : List Oper) : List Oper → List Deferred → Fr → Heap → (List Deferred → Fr → Heap → Prop) → Prop
  | [], ds, fr, h, K => K ds fr h
  | o :: r, ds, fr, h, K => gk all o fr
      (match o.op with
        | .defer c => match c.callee with
          | .value f => evk fr f fun fv => match fv with
            | .func g first cap => ∃ vs, evs fr c.args.toList = some vs ∧ evX P all r ({ target := .fn g cap, args := first ++ vs.toArray } :: ds) (put fr o.dst undef) h K
            | _ => False
          | _ => False
        | _ => opx2 P o fr h fun v h' => evX P all r ds (put fr o.dst v) h' K)
      (evX P all r ds (put fr o.dst undef) h K)
theorem evX_sound {all : List Oper} {Q : Exit → Act → World → Prop} {K : List Deferred → Fr → Heap → Prop} : ∀ (l : List Oper), (∀ o ∈ l, dok n o.dst) → ∀ (ds : List Deferred) (fr : Fr) (h : Heap) (a : Act) (w : World),
    evX P all l ds fr h K → Hold ds n fr a → w.heap = h → (∀ ds' fr' a' w', Hold ds' n fr' a' → SameEnv w w' → K ds' fr' w'.heap → Q .normal a' w') → wpList P all.toArray Q l a w
  | [], _, ds, fr, h, a, w, H, hF, hw, hQ => hQ ds fr a w hF (SameEnv.refl w) (hw ▸ H)
  | o :: r, hd, ds, fr, h, a, w, H, hF, hw, hQ => by
    unfold evX at H
    unfold wpList
    rcases gk_elim H hF with ⟨hg, H⟩ | ⟨hg, H⟩
    · rw [if_pos hg]
      refine .inl ?_
      split at H
      · rename_i c ho
        split at H
        · rename_i f hc
          obtain ⟨fv, hfv, H⟩ := evk_elim H
          split at H
          · rename_i g first cap
            obtain ⟨vs, hvs, H⟩ := H
            have e1 : c.args.map a.eval = vs.toArray := by
              apply Array.ext'
              simpa using mapM_evs hF c.args.toList vs hvs
            have hex : (execOp a.eval o).run P w = .ok (.defer { target := .fn g cap, args := first ++ vs.toArray }) w := by
              simp [execOp, ho, resolve, hc, hF.ev hfv, Deferred.ofValue, e1]
            unfold Oper.wp
            rw [hex]
            have hF' : Hold ({ target := .fn g cap, args := first ++ vs.toArray } :: ds) n fr { a with defers := { target := .fn g cap, args := first ++ vs.toArray } :: a.defers } := ⟨hF.size, by simp [hF.defers], hF.has⟩
            exact evX_sound r (fun o ho => hd o (by simp [ho])) _ _ _ _ w H (hF'.put _ _ (hd o (by simp))) hw hQ
          · exact H.elim
        · exact H.elim
      · refine wp_of_comes (opx_sound hF (opx2_elim H) hw) fun v w' hs hk => ?_
        exact evX_sound r (fun o ho => hd o (by simp [ho])) _ _ _ _ w' hk (hF.put _ _ (hd o (by simp))) rfl (fun ds' fr' a' w'' h1 h2 h3 => hQ ds' fr' a' w'' h1 (hs.trans h2) h3)
    · rw [if_neg (by simp [hg])]
      exact evX_sound r (fun o ho => hd o (by simp [ho])) _ _ _ _ w H (hF.put _ _ (hd o (by simp))) hw hQ
theorem cwx_go {id : Nat} {ops : Array Oper} {Q : List Deferred → Exit → Fr → Heap → Prop} (hd : dstsB n ops.toList = true) (H : evX P ops.toList ops.toList ds fr h fun ds fr h => Q ds .normal fr h) : CwX P n (.region id ops false) Q ds fr h :=
  ⟨fun w0 a w hF hs hw => wp_region_list (by
    have := evX_sound (n := n) (Q := fun e a w => ∃ ds fr, Hold ds n fr a ∧ SameEnv w0 w ∧ Q ds e fr w.heap) ops.toList (fun o ho => dok_of hd ho) ds fr h a w H hF hw (fun ds' fr' a' w' hF' hs' hk => ⟨ds', fr', hF', hs.trans hs', hk⟩)
    simpa using this)⟩
def fnQX (P : Program) (fn : Func) (R E : Value → Heap → Prop) : List Deferred → Exit → Fr → Heap → Prop
  | ds, .normal, fr, h => LeavesH P fn R E fr ds .returning h
  | ds, .ret, fr, h => LeavesH P fn R E fr ds .returning h
  | ds, .panic c, fr, h => LeavesH P fn R E fr ds (.panicking c) h
  | _, _, _, _ => False
/-- FROM A BODY TO A CONTRACT, where calls are deferred -/
theorem fnX_of {f : FuncId} {fn : Func} {c : Code} {args : Array Value} {R E : Value → Heap → Prop} (n : Nat) (hf : P.funcs[f]? = some fn) (hb : fn.body = some c) (hp : plain P f = true)
    (hn : fn.ntmps = n) (ha : args.size ≤ n) (H : CwX P n c (fnQX P fn R E) [] (argsFr args.toList 0) h) : FxE P f args h R E := by
  refine .inr ⟨hp, fun w hw => calls_of_wp_defers hf hb ?_⟩
  refine Code.wp_mono ?_ (H.run w _ w (begin_hold hn ha) (SameEnv.refl w) hw)
  rintro e a w' ⟨ds, fr, hF', hs, hq⟩
  have hd := hF'.defers
  cases e with
  | normal => exact (show Leaves P fn a.tmps _ a.defers .returning w' from hd ▸ leavesH_run hF' ds _ w' hq hs)
  | ret => exact (show Leaves P fn a.tmps _ a.defers .returning w' from hd ▸ leavesH_run hF' ds _ w' hq hs)
  | panic c => exact (show Leaves P fn a.tmps _ a.defers (.panicking c) w' from hd ▸ leavesH_run hF' ds _ w' hq hs)
  | _ => exact hq.elim
/-- a deferred function that does not recover -/
theorem fnD_of {f : FuncId} {fn : Func} {c : Code} {args : Array Value} {u : FrameMode} {R E : Value → Heap → Prop} (n : Nat) (hf : P.funcs[f]? = some fn) (hb : fn.body = some c)
    (hn : fn.ntmps = n) (ha : args.size ≤ n) (H : Cw P n c (fnQE P fn R E) (argsFr args.toList 0) h) :
    FxD P f args u h fun e u' h' => u' = u ∧ ((∃ v, e = .returned v ∧ R v h') ∨ ∃ v, e = .panicked (pan v) ∧ E v h') :=
  fun w hw => (callsD_of_wp (R := EndE R E w) hf hb (bodyE (begin_hold hn ha) (hw ▸ H))).mono fun _ _ _ ⟨h1, h2, h3⟩ => ⟨h2, h1, h3⟩
/-! ### recover -/
def recU : FrameMode → Option (Value × FrameMode)
  | .panicking ({ v, recovered := false, goexit := false } :: older) => some (v, .panicking ({ v, recovered := true } :: older))
  | _ => none
theorem recoverD_recU (c : Frame) (cs : List Frame) : recoverD (c :: cs) = (recU c.mode).map fun x => (x.1, { c with mode := x.2 } :: cs) := by
  obtain ⟨fn, tmps, todo, defers, mode, kind, ro⟩ := c
  cases mode with
  | run => rfl
  | returning => rfl
  | panicking l =>
    match l with
    | [] => rfl
    | ⟨v, r, g⟩ :: older => cases r <;> cases g <;> rfl
/-- code of a deferred function that may recover: u, the frame's mode below -/
structure CwS (P : Program) (n : Nat) (c : Code) (Q : FrameMode → Exit → Fr → Heap → Prop) (u : FrameMode) (fr : Fr) (h : Heap) : Prop where
  run : ∀ (c0 : Frame) (cs : List Frame) w0 a w, c0.mode = u → Hold [] n fr a → SameEnv w0 w → w.heap = h →
    c.wpS P (fun e a cs' w' => ∃ u' fr', cs' = { c0 with mode := u' } :: cs ∧ Hold [] n fr' a ∧ SameEnv w0 w' ∧ Q u' e fr' w'.heap) a (c0 :: cs) w
theorem cws_of {c : Code} {Q : FrameMode → Exit → Fr → Heap → Prop} {u : FrameMode} (H : Cw P n c (Q u) fr h) : CwS P n c Q u fr h :=
  ⟨fun c0 cs w0 a w hc hF hs hw => wpS_of_wp (Code.wp_mono (fun _ _ _ ⟨fr, h1, h2, h3⟩ => ⟨u, fr, by subst hc; rfl, h1, h2, h3⟩) (H.run w0 a w hF hs hw))⟩
def thenS (N : FrameMode → Fr → Heap → Prop) (Q : FrameMode → Exit → Fr → Heap → Prop) : FrameMode → Exit → Fr → Heap → Prop
  | u, .normal, fr, h => N u fr h
  | u, e, fr, h => Q u e fr h
theorem wpS_mono {c : Code} {Q Q' : Exit → Act → List Frame → World → Prop} {a : Act} {cs : List Frame} {w : World} (H : c.wpS P Q a cs w) (hq : ∀ e a cs w, Q e a cs w → Q' e a cs w) : c.wpS P Q' a cs w :=
  fun b k h1 h2 => let ⟨e, a', cs', w', q, r⟩ := H b k h1 h2; ⟨e, a', cs', w', hq _ _ _ _ q, r⟩
theorem cws_seq {x y : Code} {Q : FrameMode → Exit → Fr → Heap → Prop} {u : FrameMode} (H : CwS P n x (thenS (fun u fr h => CwS P n y Q u fr h) Q) u fr h) : CwS P n (.seq x y) Q u fr h :=
  ⟨fun c0 cs w0 a w hc hF hs hw => wpS_seq (wpS_mono (H.run c0 cs w0 a w hc hF hs hw) (by
    rintro e a cs' w ⟨u', fr', rfl, hF', hs', hq⟩
    cases e with
    | normal => exact hq.run { c0 with mode := u' } cs w0 a w rfl hF' hs' rfl
    | _ => exact ⟨u', fr', rfl, hF', hs', hq⟩))⟩
def isRec (o : Oper) : Bool :=
  match o.op with
  | .call c => match c.callee with
    | .builtin .recover => true
    | _ => false
  | _ => false
def evS (P : Program) (all : List Oper) : List Nat → FrameMode → Fr → Heap → (FrameMode → Fr → Heap → Prop) → Prop
  | [], u, fr, h, K => K u fr h
  | i :: r, u, fr, h, K => match all[i]? with
    | none => False
    | some o => gk all o fr
        (match isRec o with
          | true => match recU u with
            | some (v, u') => evS P all r u' (put fr o.dst v) h K
            | none => evS P all r u (put fr o.dst .nilIface) h K
          | false => opx2 P o fr h fun v h' => evS P all r u (put fr o.dst v) h' K)
        (evS P all r u (put fr o.dst undef) h K)
theorem evS_sound {all : List Oper} {Q : Exit → Act → List Frame → World → Prop} {K : FrameMode → Fr → Heap → Prop} (c0 : Frame) (cs : List Frame) (hd : ∀ o ∈ all, dok n o.dst) : ∀ (l : List Nat) (u : FrameMode) (fr : Fr) (h : Heap) (a : Act) (w : World),
    evS P all l u fr h K → Hold [] n fr a → w.heap = h → (∀ u' fr' a' w', Hold [] n fr' a' → SameEnv w w' → K u' fr' w'.heap → Q .normal a' ({ c0 with mode := u' } :: cs) w') → wpOpsS P all.toArray Q l a ({ c0 with mode := u } :: cs) w
  | [], u, fr, h, a, w, H, hF, hw, hQ => hQ u fr a w hF (SameEnv.refl w) (hw ▸ H)
  | i :: r, u, fr, h, a, w, H, hF, hw, hQ => by
    unfold evS at H
    unfold wpOpsS
    cases ho : all[i]? with
    | none => simp [ho] at H
    | some o =>
      simp only [ho] at H
      have ho' : all.toArray[i]? = some o := by simpa using ho
      have hdo := hd o (List.mem_of_getElem? ho)
      simp only [ho']
      rcases gk_elim H hF with ⟨hg, H⟩ | ⟨hg, H⟩
      · rw [if_pos hg]
        cases hr : isRec o with
        | true =>
          simp only [hr] at H
          have hex : (execOp a.eval o).run P w = .ok .recover w := by
            unfold isRec at hr
            split at hr
            · rename_i c hc
              split at hr
              · rename_i hb
                simp [execOp, hc, resolve, hb, invoke, builtin]
              · cases hr
            · cases hr
          rw [hex]
          simp only [recoverD_recU]
          cases hu : recU u with
          | none =>
            simp only [hu] at H
            exact evS_sound c0 cs hd r _ _ _ _ w H (hF.put _ _ hdo) hw hQ
          | some x =>
            obtain ⟨v, u'⟩ := x
            simp only [hu] at H
            exact evS_sound c0 cs hd r _ _ _ _ w H (hF.put _ _ hdo) hw hQ
        | false =>
          simp only [hr] at H
          have hc := opx_sound hF (opx2_elim H) hw
          generalize (execOp a.eval o).run P w = res at *
          cases res with
          | halt x w' => exact hc.elim
          | ok nx w' =>
            cases nx <;> simp only [Comes'] at hc <;> simp only [Oper.upon]
            case value v => exact evS_sound c0 cs hd r _ _ _ _ w' hc.2 (hF.put _ _ hdo) rfl (fun u' fr' a' w'' h1 h2 h3 => hQ u' fr' a' w'' h1 (hc.1.trans h2) h3)
            case skip => exact evS_sound c0 cs hd r _ _ _ _ w' hc.2 (hF.put _ _ hdo) rfl (fun u' fr' a' w'' h1 h2 h3 => hQ u' fr' a' w'' h1 (hc.1.trans h2) h3)
            case enter f args =>
              obtain ⟨rfl, hc⟩ := hc
              refine hc.mono ?_
              rintro e w'' ⟨v, rfl, hs, hk⟩
              exact evS_sound c0 cs hd r _ _ _ _ w'' hk (hF.put _ _ hdo) rfl (fun u' fr' a' w'' h1 h2 h3 => hQ u' fr' a' w'' h1 (hs.trans h2) h3)
      · rw [if_neg (by simp [hg])]
        exact evS_sound c0 cs hd r _ _ _ _ w H (hF.put _ _ hdo) hw hQ
theorem cws_go {id : Nat} {ops : Array Oper} {Q : FrameMode → Exit → Fr → Heap → Prop} {u : FrameMode} (hd : dstsB n ops.toList = true) (H : evS P ops.toList (List.range ops.size) u fr h fun u fr h => Q u .normal fr h) : CwS P n (.region id ops false) Q u fr h :=
  ⟨fun c0 cs w0 a w hc hF hs hw => wpS_region (by
    have e : c0 = { c0 with mode := u } := by subst hc; rfl
    have := evS_sound (n := n) (Q := fun e a cs' w' => ∃ u' fr', cs' = { c0 with mode := u' } :: cs ∧ Hold [] n fr' a ∧ SameEnv w0 w' ∧ Q u' e fr' w'.heap) c0 cs (fun o ho => dok_of hd ho) (List.range ops.size) u fr h a w H hF hw
      (fun u' fr' a' w' hF' hs' hk => ⟨u', fr', rfl, hF', hs.trans hs', hk⟩)
    rw [← e] at this
    simpa using this)⟩
def fnQS (P : Program) (fn : Func) (X : Ending → FrameMode → Heap → Prop) : FrameMode → Exit → Fr → Heap → Prop
  | u, .normal, fr, h => resL P fn.results.toList fr h fun vs => X (.returned (one vs)) u h
  | u, .ret, fr, h => resL P fn.results.toList fr h fun vs => X (.returned (one vs)) u h
  | u, .panic c, _, h => X (.panicked c) u h
  | _, _, _, _ => False
/-- a deferred function that may recover -/
theorem fnS_of {f : FuncId} {fn : Func} {c : Code} {args : Array Value} {u : FrameMode} {X : Ending → FrameMode → Heap → Prop} (n : Nat) (hf : P.funcs[f]? = some fn) (hb : fn.body = some c)
    (hn : fn.ntmps = n) (ha : args.size ≤ n) (H : CwS P n c (fnQS P fn X) u (argsFr args.toList 0) h) : FxD P f args u h X := by
  intro w hw
  refine callsD_of_wpS hf hb fun c0 cs hc => wpS_mono (H.run c0 cs w _ w hc (begin_hold hn ha) (SameEnv.refl w) hw) ?_
  rintro e a cs' w' ⟨u', fr', rfl, hF', hs, hq⟩
  cases e with
  | normal =>
    obtain ⟨v, hR, hr⟩ := results_run (R := fun v => X (.returned v) u' w'.heap) hF' hq
    exact ⟨hF'.defers, u', rfl, v, hr, hs, hR⟩
  | ret =>
    obtain ⟨v, hR, hr⟩ := results_run (R := fun v => X (.returned v) u' w'.heap) hF' hq
    exact ⟨hF'.defers, u', rfl, v, hr, hs, hR⟩
  | panic c => exact ⟨hF'.defers, u', rfl, hs, hq⟩
  | _ => exact hq.elim
end
end Go.Proofs.YtkdmpdbbcgdfkaaGreatDoor.Vm
namespace Go.Proofs.YtkdmpdbbcgdfkaaGreatDoor.Vm
open Go
set_option linter.unusedSimpArgs false
set_option linter.unusedVariables false
section
variable {P : Program} {n : Nat} {Q : Exit → Fr → Heap → Prop} {fr : Fr} {h : Heap} {ds : List Deferred}
def evX1 (P : Program) (all : List Oper) : List Oper → List Deferred → Fr → Heap → (List Deferred → Fr → Heap → Prop) → Prop
  | [], ds, fr, h, K => K ds fr h
  | o :: r, ds, fr, h, K => gk all o fr
      (match o.op with
        | .defer c => match c.callee with
          | .value f => evk fr f fun fv => match fv with
            | .func g first cap => ∃ vs, evs fr c.args.toList = some vs ∧ evX1 P all r ({ target := .fn g cap, args := first ++ vs.toArray } :: ds) (put fr o.dst undef) h K
            | _ => False
          | _ => False
        | _ => opx P o fr h fun v h' => evX1 P all r ds (put fr o.dst v) h' K)
      (evX1 P all r ds (put fr o.dst undef) h K)
theorem evX1_sound {all : List Oper} {Q : Exit → Act → World → Prop} {K : List Deferred → Fr → Heap → Prop} : ∀ (l : List Oper), (∀ o ∈ l, dok n o.dst) → ∀ (ds : List Deferred) (fr : Fr) (h : Heap) (a : Act) (w : World),
    evX1 P all l ds fr h K → Hold ds n fr a → w.heap = h → (∀ ds' fr' a' w', Hold ds' n fr' a' → SameEnv w w' → K ds' fr' w'.heap → Q .normal a' w') → wpList P all.toArray Q l a w
  | [], _, ds, fr, h, a, w, H, hF, hw, hQ => hQ ds fr a w hF (SameEnv.refl w) (hw ▸ H)
  | o :: r, hd, ds, fr, h, a, w, H, hF, hw, hQ => by
    unfold evX1 at H
    unfold wpList
    rcases gk_elim H hF with ⟨hg, H⟩ | ⟨hg, H⟩
    · rw [if_pos hg]
      refine .inl ?_
      split at H
      · rename_i c ho
        split at H
        · rename_i f hc
          obtain ⟨fv, hfv, H⟩ := evk_elim H
          split at H
          · rename_i g first cap
            obtain ⟨vs, hvs, H⟩ := H
            have e1 : c.args.map a.eval = vs.toArray := by
              apply Array.ext'
              simpa using mapM_evs hF c.args.toList vs hvs
            have hex : (execOp a.eval o).run P w = .ok (.defer { target := .fn g cap, args := first ++ vs.toArray }) w := by
              simp [execOp, ho, resolve, hc, hF.ev hfv, Deferred.ofValue, e1]
            unfold Oper.wp
            rw [hex]
            have hF' : Hold ({ target := .fn g cap, args := first ++ vs.toArray } :: ds) n fr { a with defers := { target := .fn g cap, args := first ++ vs.toArray } :: a.defers } := ⟨hF.size, by simp [hF.defers], hF.has⟩
            exact evX1_sound r (fun o ho => hd o (by simp [ho])) _ _ _ _ w H (hF'.put _ _ (hd o (by simp))) hw hQ
          · exact H.elim
        · exact H.elim
      · refine wp_of_comes (opx_sound hF H hw) fun v w' hs hk => ?_
        exact evX1_sound r (fun o ho => hd o (by simp [ho])) _ _ _ _ w' hk (hF.put _ _ (hd o (by simp))) rfl (fun ds' fr' a' w'' h1 h2 h3 => hQ ds' fr' a' w'' h1 (hs.trans h2) h3)
    · rw [if_neg (by simp [hg])]
      exact evX1_sound r (fun o ho => hd o (by simp [ho])) _ _ _ _ w H (hF.put _ _ (hd o (by simp))) hw hQ
theorem cwx_go1 {id : Nat} {ops : Array Oper} {Q : List Deferred → Exit → Fr → Heap → Prop} (hd : dstsB n ops.toList = true) (H : evX1 P ops.toList ops.toList ds fr h fun ds fr h => Q ds .normal fr h) : CwX P n (.region id ops false) Q ds fr h :=
  ⟨fun w0 a w hF hs hw => wp_region_list (by
    have := evX1_sound (n := n) (Q := fun e a w => ∃ ds fr, Hold ds n fr a ∧ SameEnv w0 w ∧ Q ds e fr w.heap) ops.toList (fun o ho => dok_of hd ho) ds fr h a w H hF hw (fun ds' fr' a' w' hF' hs' hk => ⟨ds', fr', hF', hs.trans hs', hk⟩)
    simpa using this)⟩
def evS1 (P : Program) (all : List Oper) : List Oper → FrameMode → Fr → Heap → (FrameMode → Fr → Heap → Prop) → Prop
  | [], u, fr, h, K => K u fr h
  | o :: r, u, fr, h, K => gk all o fr
        (match isRec o with
          | true => match recU u with
            | some (v, u') => evS1 P all r u' (put fr o.dst v) h K
            | none => evS1 P all r u (put fr o.dst .nilIface) h K
          | false => opx P o fr h fun v h' => evS1 P all r u (put fr o.dst v) h' K)
        (evS1 P all r u (put fr o.dst undef) h K)
theorem evS1_sound {all : List Oper} {Q : Exit → Act → List Frame → World → Prop} {K : FrameMode → Fr → Heap → Prop} (c0 : Frame) (cs : List Frame) (hd : ∀ o ∈ all, dok n o.dst) : ∀ (l : List Oper) (i : Nat), (∀ j : Nat, l[j]? = all[i + j]?) → ∀ (u : FrameMode) (fr : Fr) (h : Heap) (a : Act) (w : World),
    evS1 P all l u fr h K → Hold [] n fr a → w.heap = h → (∀ u' fr' a' w', Hold [] n fr' a' → SameEnv w w' → K u' fr' w'.heap → Q .normal a' ({ c0 with mode := u' } :: cs) w') → wpOpsS P all.toArray Q ((List.range l.length).map (i + ·)) a ({ c0 with mode := u } :: cs) w
  | [], i, _, u, fr, h, a, w, H, hF, hw, hQ => hQ u fr a w hF (SameEnv.refl w) (hw ▸ H)
  | o :: r, i, hl, u, fr, h, a, w, H, hF, hw, hQ => by
    have ho : all[i]? = some o := by simpa using (hl 0).symm
    have hl' : ∀ j : Nat, r[j]? = all[i + 1 + j]? := fun j => by have := hl (j + 1); simpa [Nat.add_assoc, Nat.add_comm 1 j] using this
    have er : (List.range (o :: r).length).map (i + ·) = i :: (List.range r.length).map (i + 1 + ·) := by
      rw [List.length_cons, List.range_succ_eq_map, List.map_cons, List.map_map]
      congr 1
      apply List.map_congr_left
      intro j _
      simp only [Function.comp]; omega
    rw [er]
    unfold evS1 at H
    unfold wpOpsS
    have ho' : all.toArray[i]? = some o := by simpa using ho
    have hdo := hd o (List.mem_of_getElem? ho)
    simp only [ho']
    rcases gk_elim H hF with ⟨hg, H⟩ | ⟨hg, H⟩
    · rw [if_pos hg]
      cases hr : isRec o with
      | true =>
        simp only [hr] at H
        have hex : (execOp a.eval o).run P w = .ok .recover w := by
          unfold isRec at hr
          split at hr
          · rename_i c hc
            split at hr
            · rename_i hb
              simp [execOp, hc, resolve, hb, invoke, builtin]
            · cases hr
          · cases hr
        rw [hex]
        simp only [recoverD_recU]
        cases hu : recU u with
        | none =>
          simp only [hu] at H
          exact evS1_sound c0 cs hd r (i + 1) hl' _ _ _ _ w H (hF.put _ _ hdo) hw hQ
        | some x =>
          obtain ⟨v, u'⟩ := x
          simp only [hu] at H
          exact evS1_sound c0 cs hd r (i + 1) hl' _ _ _ _ w H (hF.put _ _ hdo) hw hQ
      | false =>
        simp only [hr] at H
        have hc := opx_sound hF H hw
        generalize (execOp a.eval o).run P w = res at *
        cases res with
        | halt x w' => exact hc.elim
        | ok nx w' =>
          cases nx <;> simp only [Comes'] at hc <;> simp only [Oper.upon]
          case value v => exact evS1_sound c0 cs hd r (i + 1) hl' _ _ _ _ w' hc.2 (hF.put _ _ hdo) rfl (fun u' fr' a' w'' h1 h2 h3 => hQ u' fr' a' w'' h1 (hc.1.trans h2) h3)
          case skip => exact evS1_sound c0 cs hd r (i + 1) hl' _ _ _ _ w' hc.2 (hF.put _ _ hdo) rfl (fun u' fr' a' w'' h1 h2 h3 => hQ u' fr' a' w'' h1 (hc.1.trans h2) h3)
          case enter f args =>
            obtain ⟨rfl, hc⟩ := hc
            refine hc.mono ?_
            rintro e w'' ⟨v, rfl, hs, hk⟩
            exact evS1_sound c0 cs hd r (i + 1) hl' _ _ _ _ w'' hk (hF.put _ _ hdo) rfl (fun u' fr' a' w'' h1 h2 h3 => hQ u' fr' a' w'' h1 (hs.trans h2) h3)
    · rw [if_neg (by simp [hg])]
      exact evS1_sound c0 cs hd r (i + 1) hl' _ _ _ _ w H (hF.put _ _ hdo) hw hQ
theorem cws_go1 {id : Nat} {ops : Array Oper} {Q : FrameMode → Exit → Fr → Heap → Prop} {u : FrameMode} (hd : dstsB n ops.toList = true) (H : evS1 P ops.toList ops.toList u fr h fun u fr h => Q u .normal fr h) : CwS P n (.region id ops false) Q u fr h :=
  ⟨fun c0 cs w0 a w hc hF hs hw => wpS_region (by
    have e : c0 = { c0 with mode := u } := by subst hc; rfl
    have := evS1_sound (n := n) (Q := fun e a cs' w' => ∃ u' fr', cs' = { c0 with mode := u' } :: cs ∧ Hold [] n fr' a ∧ SameEnv w0 w' ∧ Q u' e fr' w'.heap) c0 cs (fun o ho => dok_of hd ho) ops.toList 0 (fun j => by simp) u fr h a w H hF hw
      (fun u' fr' a' w' hF' hs' hk => ⟨u', fr', rfl, hF', hs.trans hs', hk⟩)
    rw [← e] at this
    simpa using this)⟩
end
end Go.Proofs.YtkdmpdbbcgdfkaaGreatDoor.Vm
