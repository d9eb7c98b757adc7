/-
  The worker's Take of all that it said.
-/
import Derived.Test.YtgecapllodgdeaaGreatDoorTfTool
namespace Go.Proofs.YtgecapllodgdeaaGreatDoor
open Go Vm
set_option maxRecDepth 100000
set_option linter.unusedVariables false
set_option linter.unusedSimpArgs false
theorem min_int (ts : Array TypeId) (t : TypeId) (a b : Int) (h : Heap) : RunsV Tryz.prog (Builtin.min_ ts t #[.int .i64 a, .int .i64 b]) h fun u h' => u = .int .i64 (min a b) ∧ h' = h := fun w hw =>
  ⟨_, w, run_min_int2 (P := Tryz.prog) w ts t .i64 .i64 a b, SameEnv.refl w, by congr 1; split <;> omega, hw⟩
theorem wtake_fn {h : Heap} {p c d : Nat} {t : Tl} {v : Value} {l : List UInt8} (W : Wrk h p c d t v l) (h1 : 1 ≤ l.length) (h2 : l.length ≤ 999) :
    Fx Tryz.prog 31 #[pp p, .int .i64 999] h fun u h' => OB h' u l ∧ Chg (fun b => b = p ∨ ob v b) h h' := by
  refine fn_of 46 Tryz.func31 rfl (by kernel_rfl) rfl (by simp) ?_
  obtain ⟨va, vc, hve, hvm⟩ := Vm.Src.form (OB.r W.out)
  subst hve
  refine cw_seq (cw_go rfl ?_)
  conv => whnf
  refine cw_seq (cw_seq (cw_go rfl ?_))
  conv => whnf
  refine ⟨_, rfl, _, made_fn W, ?_⟩
  rintro _ h1' ⟨rfl, e⟩
  replace e := e.symm
  subst e
  conv => whnf
  refine say_f (by decide) ?_
  conv => whnf
  refine ⟨_, W.blk.rd (o := 8) rfl, ?_⟩
  conv => whnf
  refine say_f (by omega) ?_
  conv => whnf
  refine cw_false rfl (cw_skip ?_)
  refine cw_seq (cw_go rfl ?_)
  conv => whnf
  refine ⟨_, W.blk.rd (o := 8) rfl, ?_⟩
  conv => whnf
  refine ⟨_, rfl, _, min_int #[3, 3] 3 999 (l.length : Int) h, ?_⟩
  rintro _ h2' ⟨rfl, e⟩
  replace e := e.symm
  subst e
  conv => whnf
  rw [show min (999 : Int) (l.length : Int) = (l.length : Int) by omega]
  refine cw_seq (cw_go rfl ?_)
  conv => whnf
  refine ⟨_, W.blk.rd (o := 8) rfl, ?_⟩
  conv => whnf
  obtain ⟨g1, A1, hA1, hR1⟩ := RB.cut (OB.r W.out) 0 l.length (Nat.zero_le _) (Nat.le_refl _) (x := 0) rfl (y := (l.length : Int)) rfl
  refine ⟨g1, A1, hA1, ?_⟩
  rw [List.drop_zero, Nat.sub_zero, List.take_length] at hR1
  conv => whnf
  refine ⟨_, rfl, _, append_bytes (ty := 33) (OB.nil h) hR1 (by simp; omega), ?_⟩
  rintro u h3 ⟨o3, c3, f3⟩
  rw [List.nil_append] at o3
  have x3 : ExtH h h3 := c3.ext (fun b hb => (ob_nil hb).elim)
  have fu : ∀ b, ob u b → h.size ≤ b := fun b hb => (f3 b hb).elim (fun e => (ob_nil e).elim) (fun e => e)
  have W3 := W.more x3
  obtain ⟨ua, uc, hue, _⟩ := Vm.Src.form (OB.r o3)
  subst hue
  conv => whnf
  refine cw_seq (cw_go rfl ?_)
  conv => whnf
  refine ⟨_, W3.blk.rd (o := 8) rfl, ?_⟩
  conv => whnf
  obtain ⟨g2, A2, hA2, hR2⟩ := RB.cut (OB.r W3.out) l.length l.length (Nat.le_refl _) (Nat.le_refl _) (x := (l.length : Int)) rfl (y := (l.length : Int)) rfl
  refine ⟨g2, A2, hA2, ?_⟩
  have e0 : (l.drop l.length).take (l.length - l.length) = [] := by simp
  rw [e0] at hR2
  conv => whnf
  refine ⟨_, rfl, _, append_bytes (ty := 33) (OB.nil h3) hR2 (by simp), ?_⟩
  rintro w h4 ⟨o4, c4, f4⟩
  have x4 : ExtH h3 h4 := c4.ext (fun b hb => (ob_nil hb).elim)
  obtain ⟨wa, wc, hwe, _⟩ := Vm.Src.form (OB.r o4)
  subst hwe
  conv => whnf
  refine ⟨_, _, (W3.more x4).blk, by show 8 < 10; decide, ?_⟩
  intro h5 w5
  have z3 := x3.size
  have z4 := x4.size
  have z5 := w5.size
  have lp := W.blk.lt
  conv => whnf
  refine cw_seq (cw_go rfl ?_)
  conv => whnf
  refine cw_ret ⟨OwnS.keep (OwnS.more o3 x4) w5.chg (fun b hb e => by have := fu b hb; omega), ⟨by omega, fun b hb hn => ?_⟩⟩
  rw [w5.block b (fun e => hn (.inl e)), x4.block b (by omega), x3.block b hb]
end Go.Proofs.YtgecapllodgdeaaGreatDoor
