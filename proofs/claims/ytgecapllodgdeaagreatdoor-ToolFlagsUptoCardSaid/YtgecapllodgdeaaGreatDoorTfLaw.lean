/-
  ToolFlags: the walk of the law.
-/
import Derived.Test.YtgecapllodgdeaaGreatDoorTfAlive
import Derived.ChangeKeysEq
namespace Go.Proofs.YtgecapllodgdeaaGreatDoor
open Go Vm
set_option maxRecDepth 100000
set_option linter.unusedVariables false
set_option linter.unusedSimpArgs false
theorem tl_fields : (Tryz.prog.fieldsOf 24).toList.map (fun f => (f.name != "_", f.type, f.offset)) = [(true, 3, 0), (true, 3, 1), (true, 3, 2)] := by kernel_rfl
theorem eqf_int {d : Nat} {f : Field} {fs : List Field} {o : Nat} (hf : (f.name != "_", f.type, f.offset) = (true, 3, o)) {xs ys : Array Value} {a : Int} (h1 : xs[o]? = some (.int .i64 a)) (h2 : ys[o]? = some (.int .i64 a)) (w : World) :
    (Op.eqFields (d + 1) xs ys (f :: fs)).run Tryz.prog w = (Op.eqFields (d + 1) xs ys fs).run Tryz.prog w := by
  obtain ⟨nm, ty, of⟩ := f
  simp only [Prod.mk.injEq, bne_iff_ne] at hf
  obtain ⟨hn, rfl, rfl⟩ := hf
  have hp : Tryz.prog.plainKey 3 = true := by kernel_rfl
  have hu : Tryz.prog.underlying 3 = some (.int .i64) := rfl
  have e := run_equalIn_int (P := Tryz.prog) w d 3 .i64 .i64 a a hu
  rw [Op.eqFields, if_pos hn]
  simp only [Sem.run_bind, run_part_plain w hp h1, run_part_plain w hp h2, Result.andThen_ok, e]
  simp
theorem tl_run {d : Nat} (t : Tl) (fs : List Field) (hf : fs.map (fun f => (f.name != "_", f.type, f.offset)) = [(true, 3, 0), (true, 3, 1), (true, 3, 2)]) (w : World) :
    (Op.eqFields (d + 1) (tlC t).toArray (tlC t).toArray fs).run Tryz.prog w = .ok true w := by
  obtain ⟨f1, fs, rfl, e1, hf⟩ := List.map_eq_cons_iff.1 hf
  obtain ⟨f2, fs, rfl, e2, hf⟩ := List.map_eq_cons_iff.1 hf
  obtain ⟨f3, fs, rfl, e3, hf⟩ := List.map_eq_cons_iff.1 hf
  obtain rfl := List.map_eq_nil_iff.1 hf
  rw [eqf_int e1 (a := t.s) rfl rfl, eqf_int e2 (a := t.m) rfl rfl, eqf_int e3 (a := t.r) rfl rfl]
  simp [Op.eqFields]
theorem tl_eq (xo yo : Operand) (t : Tl) (w : World) :
    (do eqGuard .eql 24 xo yo (.agg (tlC t).toArray) (.agg (tlC t).toArray); binOp .eql 24 (.agg (tlC t).toArray) (.agg (tlC t).toArray) : Sem Value).run Tryz.prog w = .ok (.bool true) w := by
  have ht : Tryz.prog.underlying 24 = some (.struct (Tryz.prog.fieldsOf 24)) := by kernel_rfl
  have hp : Tryz.prog.stoodInHeld 24 = false := by kernel_rfl
  have hg : (eqGuard .eql 24 xo yo (.agg (tlC t).toArray) (.agg (tlC t).toArray)).run Tryz.prog w = .ok () w := run_eqGuard_agg (P := Tryz.prog) w .eql _ xo yo _ _ (by kernel_rfl)
  rw [Sem.run_bind, hg, Result.andThen_ok, run_eql_struct, show 10000 = 9999 + 1 from rfl, run_equalIn_struct (P := Tryz.prog) w 9999 _ _ _ ht hp, show 9999 = 9998 + 1 from rfl, tl_run t _ tl_fields, Result.andThen_ok]
theorem law_fn {h : Heap} {lv : Value} {l : List (List UInt8)} {t : Tl} (G : Gl h) (r : RT h lv l) (hl : l.length ≤ 1000000000) (hs : ∀ s ∈ l, s.length ≤ 1000000000) (b : Tl64 t) :
    Fx Tryz.prog 3 #[lv, .agg (tlC t).toArray] h fun u h' => u = .bool true ∧ ExtH h h' := by
  refine fn_of 63 Tryz.func3 rfl (by kernel_rfl) rfl (by simp) ?_
  obtain ⟨va, vc, hve, _⟩ := r.fix
  subst hve
  refine cw_seq (cw_go rfl ?_)
  intro h1 n1
  conv => whnf
  have yt : Blk h1 h.size (tlC t) 24 := n1.blk
  have x1 := n1.ext
  refine cw_seq (cw_go rfl ?_)
  conv => whnf
  refine ⟨_, rfl, _, flags_fn (G.more x1) (r.more x1) hl hs, ?_⟩
  rintro _ h2 ⟨rfl, x2⟩
  intro h3 n3
  conv => whnf
  have y3 : Blk h3 h2.size (tlC tz) 24 := n3.blk
  refine store_tl (u := (flagsP l).1) y3 ?_
  intro h4 w4
  have z2 := x2.size
  have z3 := n3.size
  have z4 := w4.size
  have x14 : ExtH h1 h4 := ⟨by omega, fun b hb => by rw [w4.block b (by omega), n3.block b (by omega), x2.block b hb]⟩
  have ya := w4.new
  conv => whnf
  refine cw_seq (cw_go rfl ?_)
  conv => whnf
  refine ⟨_, rfl, _, rflags_fn (G.more (x1.trans x14)) (r.more (x1.trans x14)) hl hs, ?_⟩
  rw [← flags_eq]
  rintro _ h5 ⟨rfl, x5⟩
  intro h6 n6
  conv => whnf
  have y6 : Blk h6 h5.size (tlC tz) 24 := n6.blk
  refine store_tl (u := (flagsP l).1) y6 ?_
  intro h7 w7
  have z5 := x5.size
  have z6 := n6.size
  have z7 := w7.size
  have x47 : ExtH h4 h7 := ⟨by omega, fun b hb => by rw [w7.block b (by omega), n6.block b (by omega), x5.block b hb]⟩
  have yb := w7.new
  have ya7 := x47.blk ya
  have yt7 := (x14.trans x47).blk yt
  have x07 := x1.trans (x14.trans x47)
  clear y3 n3 w4 y6 n6 w7 ya yt x14
  generalize (flagsP l).1 = ft at ya7 yb
  generalize (flagsP l).2 = fe
  conv => whnf
  refine cw_seq (cw_go rfl ?_)
  conv => whnf
  refine ⟨_, rfl, yt7.all, ?_⟩
  conv => whnf
  cases hm : mayS t with
  | false =>
    refine ⟨_, rfl, _, tnew_no hm h7, ?_⟩
    rintro _ h8 ⟨rfl, x8⟩
    conv => whnf
    refine cw_seq (cw_go rfl ?_)
    conv => whnf
    refine ⟨_, rfl, (x8.blk yt7).all, ?_⟩
    conv => whnf
    refine ⟨_, rfl, _, rtnew_no hm h8, ?_⟩
    rintro _ h9 ⟨rfl, x9⟩
    intro h10 n10
    conv => whnf
    have y10 : Blk h10 h9.size (rW tz 0 0 0 (.slice none 0 0)) 49 := n10.blk
    refine store_rw y10 rfl ?_
    intro h11 w11
    have z8 := x8.size
    have z9 := x9.size
    have z10 := n10.size
    have z11 := w11.size
    have x11 : ExtH h7 h11 := ⟨by omega, fun b hb => by rw [w11.block b (by omega), n10.block b (by omega), x9.block b (by omega), x8.block b hb]⟩
    have yA := x11.blk ya7
    have yB := x11.blk yb
    have yT := x11.blk yt7
    have x0 := x07.trans x11
    have G11 := G.more x0
    conv => whnf
    refine cw_seq (cw_dgo (by kernel_rfl) 30 (List.range 30) (by kernel_rfl) rfl ?_)
    conv => whnf
    refine ⟨_, rfl, yA.all, ?_⟩
    conv => whnf
    refine ⟨_, rfl, yB.all, ?_⟩
    conv => whnf
    refine ⟨.bool true, fun w => tl_eq _ _ ft w, ?_⟩
    conv => whnf
    refine say_t rfl ?_
    conv => whnf
    refine ⟨_, rfl, yT.all, ?_⟩
    conv => whnf
    refine ⟨_, rfl, _, (fun g e => key_fn b g), ?_⟩
    conv => whnf
    refine ⟨_, rfl, yT.all, ?_⟩
    conv => whnf
    refine ⟨_, rfl, _, (fun g e => rkey_fn b (G11.tab.more e)), ?_⟩
    conv => whnf
    refine ⟨.bool true, fun w => dig_self _ _ (keyS_length t) w, ?_⟩
    conv => whnf
    refine say_t rfl ?_
    conv => whnf
    refine ⟨.bool false, fun w => by kernel_rfl, ?_⟩
    conv => whnf
    conv => whnf
    refine say_f (by decide) ?_
    conv => whnf
    refine ⟨.bool true, fun w => by kernel_rfl, ?_⟩
    conv => whnf
    conv => whnf
    refine ⟨_, rfl, _, (fun g e => alive_fn (G11.tab.more e)), ?_⟩
    conv => whnf
    intro h12 e12
    exact cw_ret ⟨rfl, x0.trans e12⟩
  | true =>
    refine ⟨_, rfl, _, tnew_fn hm h7, ?_⟩
    rintro _ h8 ⟨p, c, d, v, rfl, _, x8, _, _⟩
    conv => whnf
    refine cw_seq (cw_go rfl ?_)
    conv => whnf
    refine ⟨_, rfl, (x8.blk yt7).all, ?_⟩
    conv => whnf
    refine ⟨_, rfl, _, rtnew_fn hm ((G.more (x07.trans x8)).tab), ?_⟩
    rintro _ h9 ⟨rv, rfl, _, ⟨ra, rc, hre⟩, x9, _⟩
    subst hre
    intro h10 n10
    conv => whnf
    have y10 : Blk h10 h9.size (rW tz 0 0 0 (.slice none 0 0)) 49 := n10.blk
    refine store_rw y10 rfl ?_
    intro h11 w11
    have z8 := x8.size
    have z9 := x9.size
    have z10 := n10.size
    have z11 := w11.size
    have x11 : ExtH h7 h11 := ⟨by omega, fun b hb => by rw [w11.block b (by omega), n10.block b (by omega), x9.block b (by omega), x8.block b hb]⟩
    have yA := x11.blk ya7
    have yB := x11.blk yb
    have yT := x11.blk yt7
    have x0 := x07.trans x11
    have G11 := G.more x0
    conv => whnf
    refine cw_seq (cw_dgo (by kernel_rfl) 30 (List.range 30) (by kernel_rfl) rfl ?_)
    conv => whnf
    refine ⟨_, rfl, yA.all, ?_⟩
    conv => whnf
    refine ⟨_, rfl, yB.all, ?_⟩
    conv => whnf
    refine ⟨.bool true, fun w => tl_eq _ _ ft w, ?_⟩
    conv => whnf
    refine say_t rfl ?_
    conv => whnf
    refine ⟨_, rfl, yT.all, ?_⟩
    conv => whnf
    refine ⟨_, rfl, _, (fun g e => key_fn b g), ?_⟩
    conv => whnf
    refine ⟨_, rfl, yT.all, ?_⟩
    conv => whnf
    refine ⟨_, rfl, _, (fun g e => rkey_fn b (G11.tab.more e)), ?_⟩
    conv => whnf
    refine ⟨.bool true, fun w => dig_self _ _ (keyS_length t) w, ?_⟩
    conv => whnf
    refine say_t rfl ?_
    conv => whnf
    refine ⟨.bool true, fun w => by kernel_rfl, ?_⟩
    conv => whnf
    conv => whnf
    refine say_t (by decide) ?_
    conv => whnf
    refine ⟨.bool true, fun w => by kernel_rfl, ?_⟩
    conv => whnf
    conv => whnf
    refine ⟨_, rfl, _, (fun g e => alive_fn (G11.tab.more e)), ?_⟩
    conv => whnf
    intro h12 e12
    exact cw_ret ⟨rfl, x0.trans e12⟩
end Go.Proofs.YtgecapllodgdeaaGreatDoor
