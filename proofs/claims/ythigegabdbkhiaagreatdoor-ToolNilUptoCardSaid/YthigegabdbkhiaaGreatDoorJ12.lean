/-
  Hello frames: the document's only, Same, body, Check, Encode.
    Hello frames: the document's body, Check, Encode.
  Memos, compilers, decoders that were just made; tool.New.
    tool.New and the worker's say, Takes, Out, Take.
  The worker's Take of all that it said.
  The document's New of layers 8, 24, 25.
-/
import Derived.Test.YthigegabdbkhiaaGreatDoorJ11
namespace Go.Proofs.YthigegabdbkhiaaGreatDoor
open Go Vm
set_option maxRecDepth 100000
set_option linter.unusedVariables false
set_option linter.unusedSimpArgs false
theorem rsame_nil (h : Heap) : Fx Tryz.prog 153 #[.slice none 0 0, .slice none 0 0] h fun u h' => u = .bool true ∧ h' = h := by
  refine fn_of 26 Tryz.func153 rfl (by kernel_rfl) rfl (by simp) ?_
  refine cw_seq (cw_go rfl ?_)
  conv => whnf
  refine cw_seq (cw_seq (cw_go rfl ?_))
  conv => whnf
  refine say_f (by decide) ?_
  conv => whnf
  refine cw_false rfl (cw_skip ?_)
  refine cw_seq (cw_seq (cw_go rfl ?_))
  conv => whnf
  refine cw_block ?_
  refine cw_loop (S := Nat) (fun i => [(0, .slice none 0 0), (1, .slice none 0 0), (5, .int .i64 0)]) (fun i h' => h' = h) (fun i => i) 0 ⟨rfl, rfl, rfl, trivial⟩ rfl ?_
  rintro i _ rfl
  refine cw_seq (cw_seq (cw_go rfl ?_))
  conv => whnf
  refine say_f (by decide) ?_
  refine cw_false rfl (cw_exit ?_)
  refine cw_seq (cw_go rfl ?_)
  conv => whnf
  exact cw_ret ⟨rfl, rfl⟩
theorem rfsame_fn (k v s : Int) {d : List UInt8} (hd : d.length = 32) (h : Heap) :
    Fx Tryz.prog 110 #[.agg (frC k v s d).toArray, .agg (frC k v s d).toArray] h fun u h' => u = .bool true ∧ ExtH h h' := by
  refine fn_of 66 Tryz.func110 rfl (by kernel_rfl) rfl (by simp) ?_
  refine cw_seq (cw_go rfl ?_)
  intro h1 n1
  conv => whnf
  have y1 : Blk h1 h.size (frC k v s d) 79 := n1.blk
  intro h2 n2
  conv => whnf
  have y2 : Blk h2 h1.size (frC k v s d) 79 := n2.blk
  have y12 := n2.ext.blk y1
  clear y1
  have e12 := n1.ext.trans n2.ext
  refine cw_seq (cw_go rfl ?_)
  conv => whnf
  refine ⟨_, y12.rd (o := 0) rfl, ?_⟩
  conv => whnf
  refine ⟨_, y2.rd (o := 0) rfl, ?_⟩
  conv => whnf
  refine say_t rfl ?_
  conv => whnf
  refine ⟨_, y12.rd (o := 1) rfl, ?_⟩
  conv => whnf
  refine ⟨_, y2.rd (o := 1) rfl, ?_⟩
  conv => whnf
  refine say_t rfl ?_
  conv => whnf
  refine ⟨_, y12.rd (o := 2) rfl, ?_⟩
  conv => whnf
  refine ⟨_, y2.rd (o := 2) rfl, ?_⟩
  conv => whnf
  refine say_t rfl ?_
  conv => whnf
  refine ⟨_, y12.rd (o := 3) rfl, ?_⟩
  conv => whnf
  refine ⟨_, y2.rd (o := 3) rfl, ?_⟩
  conv => whnf
  refine say_t rfl ?_
  conv => whnf
  refine ⟨_, by rw [List.length_map, hd]; rfl, frC_tool y12 hd, ?_⟩
  conv => whnf
  refine ⟨_, by rw [List.length_map, hd]; rfl, frC_tool y2 hd, ?_⟩
  conv => whnf
  refine ⟨.bool true, fun w => dig_self _ _ hd w, ?_⟩
  conv => whnf
  refine ⟨_, y12.rd (o := 36) (frC_at hd 0), ?_⟩
  conv => whnf
  refine ⟨_, y2.rd (o := 36) (frC_at hd 0), ?_⟩
  conv => whnf
  refine say_t rfl ?_
  conv => whnf
  refine ⟨_, rfl, frC_lim y12 hd, ?_⟩
  conv => whnf
  refine ⟨_, rfl, frC_lim y2 hd, ?_⟩
  conv => whnf
  refine ⟨.bool true, fun w => by kernel_rfl, ?_⟩
  conv => whnf
  conv => whnf
  refine ⟨_, y12.rd (o := 40) (frC_at hd 4), ?_⟩
  conv => whnf
  refine ⟨_, y2.rd (o := 40) (frC_at hd 4), ?_⟩
  conv => whnf
  refine ⟨_, rfl, _, rsame_nil h2, ?_⟩
  rintro _ h3 ⟨rfl, e3⟩
  replace e3 := e3.symm
  subst e3
  conv => whnf
  refine ⟨_, y12.rd (o := 41) (frC_at hd 5), ?_⟩
  conv => whnf
  refine ⟨_, y2.rd (o := 41) (frC_at hd 5), ?_⟩
  conv => whnf
  refine say_t rfl ?_
  exact cw_ret ⟨rfl, e12⟩
theorem ronly_fn (v s : Int) {d : List UInt8} (hd : d.length = 32) (h : Heap) :
    Fx Tryz.prog 111 #[.agg (frC 1 v s d).toArray] h fun u h' => u = .agg (frC 1 v s d).toArray ∧ ExtH h h' := by
  refine fn_of 56 Tryz.func111 rfl (by kernel_rfl) rfl (by simp) ?_
  refine cw_seq (cw_go rfl ?_)
  intro h1 n1
  conv => whnf
  have y1 : Blk h1 h.size (frC 1 v s d) 79 := n1.blk
  intro h2 n2
  conv => whnf
  have y2 : Blk h2 h1.size (frC 0 0 0 zd32) 79 := n2.blk
  have y12 := n2.ext.blk y1
  have z1 := n1.size
  have z2 := n2.size
  refine cw_seq (cw_go rfl ?_)
  conv => whnf
  refine ⟨_, y12.rd (o := 0) rfl, ?_⟩
  conv => whnf
  refine ⟨_, rfl, (frC 1 0 0 zd32).toArray, fun w => by kernel_rfl, ?_⟩
  conv => whnf
  intro h3 n3
  conv => whnf
  have y3 : Blk h3 h2.size (frC 0 0 0 zd32) 79 := n3.blk
  refine store_fr (k := 1) (v := 0) (s := 0) (d := zd32) y3 (by rfl) (by rfl) ?_
  intro h4 w4
  have z3 := n3.size
  have z4 := w4.size
  have x4 : ExtH h2 h4 := ⟨by omega, fun b hb => by rw [w4.block b (by omega), n3.block b hb]⟩
  have ya := x4.blk y12
  have yb := x4.blk y2
  have yc := w4.new
  conv => whnf
  refine cw_seq (cw_seq (cw_go rfl ?_))
  conv => whnf
  refine ⟨_, ya.rd (o := 0) rfl, ?_⟩
  refine cw_block ?_
  refine cw_seq (cw_go rfl ?_)
  conv => whnf
  refine say_t (by decide) ?_
  refine cw_true rfl ?_
  refine cw_keeps (by kernel_rfl) 11 (fun b => b ≠ h2.size ∧ b < h4.size) (.q 0 (.q 1 (.q 2 (.q 3 (.q 4 (.q 5 (.q 6 (.i1 7 (.q 8 (.i1 9 (.q 10 .leaf))))))))))) (by kernel_rfl) rfl ?_
  have kp : ∀ {h' : Heap}, ExtP (fun b => b ≠ h2.size ∧ b < h4.size) h4 h' → Blk h' h.size (frC 1 v s d) 79 := fun e => (e.block _ ⟨by omega, by omega⟩ (by omega)).trans ya
  conv => whnf
  refine ⟨_, fun h' e => rfl, ?_⟩
  conv => whnf
  refine ⟨.int .i64 v, fun h' e => ⟨_, (kp e).rd (o := 2) rfl, rfl⟩, ?_⟩
  conv => whnf
  refine ⟨_, fun h' e => rfl, ?_⟩
  conv => whnf
  refine ⟨.int .i64 s, fun h' e => ⟨_, (kp e).rd (o := 3) rfl, rfl⟩, ?_⟩
  conv => whnf
  refine ⟨_, fun h' e => rfl, ?_⟩
  conv => whnf
  refine ⟨.agg (d.map u8v).toArray, fun h' e => ⟨_, by rw [List.length_map, hd]; rfl, frC_tool (kp e) hd, rfl⟩, ?_⟩
  conv => whnf
  refine ⟨_, fun h' e => rfl, ?_⟩
  conv => whnf
  intro g1 e1
  conv => whnf
  have c1 := e1.blk yc
  refine ⟨_, _, c1, by show 2 < (frC 1 0 0 zd32).length; decide, ?_⟩
  intro g2 w2
  replace w2 := w2.cast (l' := frC 1 v 0 zd32) rfl
  have q2 := w2.size
  have q1 := e1.size
  refine ⟨⟨by omega, fun b hb hlt => w2.block b hb.1⟩, ?_⟩
  intro g3 e3
  conv => whnf
  refine ⟨_, fun h' e => rfl, ?_⟩
  conv => whnf
  intro g4 e4
  conv => whnf
  have c4 := e4.blk (e3.blk w2.new)
  refine ⟨_, _, c4, by show 3 < (frC 1 v 0 zd32).length; rw [frC_length rfl]; decide, ?_⟩
  intro g5 w5
  replace w5 := w5.cast (l' := frC 1 v s zd32) rfl
  have q3 := e3.size
  have q4 := e4.size
  have q5 := w5.size
  refine ⟨⟨by omega, fun b hb hlt => w5.block b hb.1⟩, ?_⟩
  intro g6 e6
  conv => whnf
  refine ⟨_, fun h' e => rfl, ?_⟩
  conv => whnf
  intro g7 e7
  conv => whnf
  have c7 := e7.blk (e6.blk w5.new)
  refine ⟨_, _, c7, ⟨by show 4 + (d.map u8v).length ≤ (frC 1 v s zd32).length; rw [frC_length rfl, List.length_map, hd]; decide, by show (d.map u8v).length = 32; rw [List.length_map, hd], fun x hx => one8 d x hx⟩, ?_⟩
  intro g8 w8
  replace w8 := w8.cast (l' := frC 1 v s d) (frC_tool_set rfl hd)
  have q6 := e6.size
  have q7 := e7.size
  have q8 := w8.size
  have bl : ∀ b, b < h2.size → g8[b]? = h4[b]? := fun b hb => by
    rw [w8.block b (by omega), e7.block b (by omega), e6.block b (by omega), w5.block b (by omega), e4.block b (by omega), e3.block b (by omega), w2.block b (by omega), e1.block b (by omega)]
  have yb8 : Blk g8 h1.size (frC 0 0 0 zd32) 79 := (bl _ (by omega)).trans yb
  refine cw_seq (cw_go rfl ?_)
  conv => whnf
  refine ⟨_, by rw [frC_length hd]; rfl, w8.new.all, ?_⟩
  conv => whnf
  refine store_fr (k := 1) (v := v) (s := s) (d := d) yb8 (by rfl) hd ?_
  intro g9 w9
  have q9 := w9.size
  exact cw_ret ⟨_, by rw [frC_length hd]; rfl, w9.new.all, rfl, ⟨by omega, fun b hb => by rw [w9.block b (by omega), bl b (by omega), x4.block b (by omega), n2.block b (by omega), n1.block b hb]⟩⟩
end Go.Proofs.YthigegabdbkhiaaGreatDoor
namespace Go.Proofs.YthigegabdbkhiaaGreatDoor
open Go Vm
set_option maxRecDepth 100000
set_option linter.unusedVariables false
set_option linter.unusedSimpArgs false
theorem rbody_fn (s : Nat) (hs : s ≤ 64) {d : List UInt8} (hd : d.length = 32) (h : Heap) :
    Fx Tryz.prog 84 #[.agg (frC 1 1 s d).toArray] h fun u h' => OB h' u (bodyS s d) ∧ ExtH h h' ∧ ∀ b, ob u b → h.size ≤ b := by
  refine fn_of 107 Tryz.func84 rfl (by kernel_rfl) rfl (by simp) ?_
  have u1 := uvar_10 (show 1 < 18446744073709551616 by decide)
  have us := uvar_10 (show s < 18446744073709551616 by omega)
  refine cw_seq (cw_go rfl ?_)
  intro h1 n1
  conv => whnf
  have y1 : Blk h1 h.size (frC 1 1 s d) 79 := n1.blk
  have x1 := n1.ext
  have z1 := n1.size
  refine cw_seq (cw_go rfl ?_)
  conv => whnf
  refine ⟨_, y1.rd (o := 0) rfl, ?_⟩
  conv => whnf
  refine say_w (u64_n 1 (by decide)) ?_
  conv => whnf
  refine ⟨_, rfl, _, rUint_fn 1 h1 (by decide), ?_⟩
  rintro v2 h2 ⟨o2, x2, f2⟩
  have y2 := x2.blk y1
  conv => whnf
  refine cw_seq (cw_seq (cw_go rfl ?_))
  conv => whnf
  refine ⟨_, y2.rd (o := 0) rfl, ?_⟩
  refine cw_block ?_
  refine cw_seq (cw_go rfl ?_)
  conv => whnf
  refine say_t (by decide) ?_
  refine cw_true rfl ?_
  refine cw_seq (cw_go rfl ?_)
  conv => whnf
  refine ⟨_, y2.rd (o := 2) rfl, ?_⟩
  conv => whnf
  refine say_w (u64_n 1 (by decide)) ?_
  conv => whnf
  refine ⟨_, rfl, _, rUint_fn 1 h2 (by decide), ?_⟩
  rintro v3 h3 ⟨o3, x3, f3⟩
  conv => whnf
  refine ⟨_, rfl, _, append_bytes (ty := 33) (OwnS.more o2 x3) (OB.r o3) (by omega), ?_⟩
  rintro v4 h4 ⟨o4, c4, f4⟩
  have x24 := ext_of_chg (x2.trans x3) c4 f2
  have y4 := x24.blk y1
  have z2 := x2.size
  have z3 := x3.size
  have z4 := x24.size
  have fv4 : ∀ b, ob v4 b → h1.size ≤ b := fun b hb => (f4 b hb).elim (f2 b) (fun e => by omega)
  conv => whnf
  refine cw_seq (cw_go rfl ?_)
  conv => whnf
  refine ⟨_, y4.rd (o := 3) rfl, ?_⟩
  conv => whnf
  refine say_w (u64_n s (by omega)) ?_
  conv => whnf
  refine ⟨_, rfl, _, rUint_fn s h4 (by omega), ?_⟩
  rintro v5 h5 ⟨o5, x5, f5⟩
  conv => whnf
  refine ⟨_, rfl, _, append_bytes (ty := 33) (OwnS.more o4 x5) (OB.r o5) (by simp only [List.length_append]; omega), ?_⟩
  rintro v6 h6 ⟨o6, c6, f6⟩
  have x46 := ext_of_chg (x24.trans x5) c6 fv4
  have y6 := x46.blk y1
  have z5 := x5.size
  have z6 := x46.size
  have fv6 : ∀ b, ob v6 b → h1.size ≤ b := fun b hb => (f6 b hb).elim (fv4 b) (fun e => by omega)
  obtain ⟨a6, b6, he6, _⟩ := Vm.Src.form (OB.r o6)
  conv => whnf
  refine cw_seq (cw_go rfl ?_)
  conv => whnf
  refine cw_block ?_
  refine cw_loop (S := Nat × Value) (fun i => [(1, .pointer (some ⟨h.size, 0, none⟩)), (3, i.2), (4, .int .i64 (i.1 : Int))])
    (fun i h' => i.1 ≤ 32 ∧ (∃ a c, i.2 = .slice a (uvar 1 ++ uvar 1 ++ uvar s ++ d.take i.1).length c) ∧ OB h' i.2 (uvar 1 ++ uvar 1 ++ uvar s ++ d.take i.1) ∧ ExtH h1 h' ∧ ∀ b, ob i.2 b → h1.size ≤ b) (fun i => 32 - i.1) (0, v6) ⟨rfl, rfl, rfl, trivial⟩
    ⟨by show 0 ≤ 32; decide, ⟨a6, b6, by simpa using he6⟩, by simpa using o6, x46, fv6⟩ ?_
  clear o6 he6 x46 fv6 y6
  rintro ⟨i, x⟩ h7 ⟨hi, ⟨xa, xc, hx⟩, o7, x7, f7⟩
  simp only at hi hx o7 f7
  subst hx
  have y7 := x7.blk y1
  refine cw_seq (cw_seq (cw_go rfl ?_))
  conv => whnf
  by_cases h32 : i < 32
  · refine say_t (by show (i : Int) < 32; omega) ?_
    refine cw_true rfl (cw_skip ?_)
    refine cw_seq (cw_block ?_)
    have hg : d[i]? = some (d.getD i 0) := by rw [List.getD_eq_getElem?_getD, List.getElem?_eq_getElem (by omega)]; rfl
    refine cw_go rfl ?_
    conv => whnf
    refine And.intro ⟨by show (0 : Int) ≤ (i : Int); omega, by show (i : Int) < 32; omega⟩ ?_
    conv => whnf
    refine ⟨u8v (d.getD i 0), by
      have := frC_tool y7 hd i (u8v (d.getD i 0)) (by rw [List.getElem?_map, hg]; rfl)
      rwa [show 4 + i = 4 + (((i, Value.slice xa (uvar 1 ++ uvar 1 ++ uvar s ++ d.take i).length xc).1 : Int)).toNat by show 4 + i = 4 + ((i : Int)).toNat; omega] at this, ?_⟩
    conv => whnf
    refine ⟨_, rfl, #[u8v (d.getD i 0)], 5, fun w => by kernel_rfl, ?_⟩
    conv => whnf
    intro h8 n8
    conv => whnf
    have r8 : RB h8 (.slice (some ⟨h7.size, 0, none⟩) 1 1) [d.getD i 0] := RB.of_newed n8 rfl rfl (by show 1 ≤ maxLen; decide)
    refine ⟨_, rfl, _, append_bytes (ty := 33) (OwnS.more o7 n8.ext) r8 (by simp only [List.length_append, List.length_take, List.length_cons, List.length_nil]; omega), ?_⟩
    rintro u h9 ⟨o9, c9, f9⟩
    have e9 : uvar 1 ++ uvar 1 ++ uvar s ++ d.take i ++ [d.getD i 0] = uvar 1 ++ uvar 1 ++ uvar s ++ d.take (i + 1) := by
      rw [List.take_add_one, hg, List.append_assoc]; rfl
    rw [e9] at o9
    obtain ⟨ua, uc, hue, _⟩ := Vm.Src.form (OB.r o9)
    have z7 := x7.size
    have z8 := n8.size
    refine cw_go rfl ?_
    conv => whnf
    refine say_i (by show -9223372036854775808 ≤ (i : Int) + 1 ∧ (i : Int) + 1 < _; omega) ?_
    exact ⟨(i + 1, u), ⟨rfl, rfl, rfl, trivial⟩, ⟨by show i + 1 ≤ 32; omega, ⟨_, _, hue⟩, o9, ext_of_chg (x7.trans n8.ext) c9 f7, fun b hb => (f9 b hb).elim (f7 b) (fun e => by omega)⟩, by show 32 - (i + 1) < 32 - i; omega⟩
  · refine say_f (by show ¬ (i : Int) < 32; omega) ?_
    refine cw_false rfl (cw_exit ?_)
    have hi2 : i = 32 := by omega
    subst hi2
    rw [show d.take 32 = d by rw [← hd]; exact List.take_length] at o7 f7
    refine cw_seq (cw_go rfl ?_)
    conv => whnf
    refine cw_ret ⟨?_, x1.trans x7, fun b hb => ?_⟩
    · rw [show d.take 32 = d by rw [← hd]; exact List.take_length]
      exact o7
    · rw [show d.take 32 = d by rw [← hd]; exact List.take_length] at hb
      have := f7 b hb; omega
theorem rcheck_fn (s : Nat) (hs : 1 ≤ s ∧ s ≤ 64) {d : List UInt8} (hd : d.length = 32) (h : Heap) :
    Fx Tryz.prog 83 #[.agg (frC 1 1 s d).toArray] h fun u h' => u = .int .i64 0 ∧ ExtH h h' := by
  refine fn_of 121 Tryz.func83 rfl (by kernel_rfl) rfl (by simp) ?_
  refine cw_seq (cw_go rfl ?_)
  intro h1 n1
  conv => whnf
  have y1 : Blk h1 h.size (frC 1 1 s d) 79 := n1.blk
  have x1 := n1.ext
  refine cw_seq (cw_dgo (by kernel_rfl) 21 (List.range 21) (by kernel_rfl) rfl ?_)
  conv => whnf
  refine ⟨_, y1.rd (o := 0) rfl, ?_⟩
  conv => whnf
  refine say_f (by decide) ?_
  conv => whnf
  refine ⟨_, y1.rd (o := 0) rfl, ?_⟩
  conv => whnf
  refine say_f (by decide) ?_
  conv => whnf
  refine ⟨_, by rw [frC_length hd]; rfl, y1.all, ?_⟩
  conv => whnf
  refine ⟨_, by rw [frC_length hd]; rfl, y1.all, ?_⟩
  conv => whnf
  refine ⟨_, rfl, _, (fun g e => ronly_fn 1 s hd g), ?_⟩
  conv => whnf
  refine ⟨_, rfl, _, (fun g e => rfsame_fn 1 1 s hd g), ?_⟩
  conv => whnf
  refine ⟨_, y1.rd (o := 40) (frC_at hd 4), ?_⟩
  conv => whnf
  refine say_f (by decide) ?_
  conv => whnf
  intro h2 e2
  have y2 := e2.blk y1
  conv => whnf
  refine cw_seq (cw_go rfl ?_)
  conv => whnf
  refine ⟨_, y2.rd (o := 37) (frC_at hd 1), ?_⟩
  conv => whnf
  refine say_f (by decide) ?_
  conv => whnf
  refine ⟨_, y2.rd (o := 38) (frC_at hd 2), ?_⟩
  conv => whnf
  refine say_f (by decide) ?_
  conv => whnf
  refine ⟨_, y2.rd (o := 39) (frC_at hd 3), ?_⟩
  conv => whnf
  refine say_f (by decide) ?_
  conv => whnf
  refine cw_seq (cw_go rfl ?_)
  repeat ((conv => whnf); first | refine ⟨_, Blk.rd ‹Blk _ _ _ _› rfl, ?_⟩ | refine ⟨_, rd_up ‹ExtH _ _› (Blk.rd ‹Blk _ _ _ _› rfl), ?_⟩ | refine And.intro ⟨by omega, by omega⟩ ?_ | refine say_i (by omega) ?_ | refine say_u8 (by omega) ?_ | refine say_u64 (by omega) ?_ | refine say_len ?_ | refine say_at ⟨by omega, by omega⟩ ?_ | refine say_to (by omega) (by omega) ?_ | refine say_from (by omega) (by omega) ?_ | refine say_t (by omega) ?_ | refine say_f (by omega) ?_)
  try (conv => whnf)
  refine cw_seq (cw_go rfl ?_)
  repeat ((conv => whnf); first | refine ⟨_, Blk.rd ‹Blk _ _ _ _› rfl, ?_⟩ | refine ⟨_, rd_up ‹ExtH _ _› (Blk.rd ‹Blk _ _ _ _› rfl), ?_⟩ | refine And.intro ⟨by omega, by omega⟩ ?_ | refine say_i (by omega) ?_ | refine say_u8 (by omega) ?_ | refine say_u64 (by omega) ?_ | refine say_len ?_ | refine say_at ⟨by omega, by omega⟩ ?_ | refine say_to (by omega) (by omega) ?_ | refine say_from (by omega) (by omega) ?_ | refine say_t (by omega) ?_ | refine say_f (by omega) ?_)
  try (conv => whnf)
  refine cw_seq (cw_seq (cw_go rfl ?_))
  conv => whnf
  refine cw_block ?_
  refine cw_loop (S := Nat) (fun i => [(1, .pointer (some ⟨h.size, 0, none⟩)), (3, .bool false), (4, .int .i64 0)]) (fun i h' => h2 = h') (fun i => i) 0 ⟨rfl, rfl, rfl, trivial⟩ rfl ?_
  rintro i _ rfl
  refine cw_seq (cw_seq (cw_go rfl ?_))
  conv => whnf
  refine ⟨_, y2.rd (o := 40) (frC_at hd 4), ?_⟩
  conv => whnf
  refine say_f (by decide) ?_
  conv => whnf
  refine cw_false rfl (cw_exit ?_)
  refine cw_seq (cw_seq (cw_go rfl ?_))
  conv => whnf
  refine cw_false rfl (cw_skip ?_)
  refine cw_seq (cw_seq (cw_go rfl ?_))
  conv => whnf
  refine ⟨_, y2.rd (o := 41) (frC_at hd 5), ?_⟩
  conv => whnf
  refine ⟨0, rfl, ?_⟩
  conv => whnf
  refine say_f (by decide) ?_
  conv => whnf
  refine ⟨_, by rw [frC_length hd]; rfl, y2.all, ?_⟩
  conv => whnf
  refine ⟨_, rfl, _, rbody_fn s hs.2 hd h2, ?_⟩
  rintro u h11 ⟨o11, x11, f11⟩
  obtain ⟨ua, uc, hue, _⟩ := Vm.Src.form (OB.r o11)
  subst hue
  have hbl := bodyS_len hs.2 hd
  conv => whnf
  refine say_f (by omega) ?_
  conv => whnf
  refine cw_false rfl (cw_skip ?_)
  refine cw_seq (cw_go rfl ?_)
  conv => whnf
  exact cw_ret ⟨rfl, (x1.trans e2).trans x11⟩
theorem rencode_fn (s : Nat) (hs : 1 ≤ s ∧ s ≤ 64) {d : List UInt8} (hd : d.length = 32) (h : Heap) :
    Fx Tryz.prog 54 #[.agg (frC 1 1 s d).toArray] h fun u h' => ∃ v, u = .tuple #[v, .int .i64 0] ∧ OB h' v (encS s d) ∧ ExtH h h' ∧ ∀ b, ob v b → h.size ≤ b := by
  refine fn_of 21 Tryz.func54 rfl (by kernel_rfl) rfl (by simp) ?_
  have hbl := bodyS_len hs.2 hd
  refine cw_seq (cw_go rfl ?_)
  intro h1 n1
  conv => whnf
  have y1 : Blk h1 h.size (frC 1 1 s d) 79 := n1.blk
  have x1 := n1.ext
  refine cw_seq (cw_go rfl ?_)
  conv => whnf
  refine ⟨_, by rw [frC_length hd]; rfl, y1.all, ?_⟩
  conv => whnf
  refine ⟨_, rfl, _, rcheck_fn s hs hd h1, ?_⟩
  rintro _ h2 ⟨rfl, x2⟩
  have y2 := x2.blk y1
  conv => whnf
  refine cw_seq (cw_seq (cw_go rfl ?_))
  conv => whnf
  refine say_f (by decide) ?_
  conv => whnf
  refine cw_false rfl (cw_skip ?_)
  refine cw_seq (cw_go rfl ?_)
  conv => whnf
  refine ⟨_, by rw [frC_length hd]; rfl, y2.all, ?_⟩
  conv => whnf
  refine ⟨_, rfl, _, rbody_fn s hs.2 hd h2, ?_⟩
  rintro u h3 ⟨o3, x3, f3⟩
  obtain ⟨ua, uc, hue, _⟩ := Vm.Src.form (OB.r o3)
  subst hue
  conv => whnf
  refine cw_seq (cw_go rfl ?_)
  conv => whnf
  refine say_w (u64_n _ (by omega)) ?_
  conv => whnf
  refine ⟨_, rfl, _, rUint_fn (bodyS s d).length h3 (by omega), ?_⟩
  rintro w h4 ⟨o4, x4, f4⟩
  have ul := uvar_10 (show (bodyS s d).length < 18446744073709551616 by omega)
  conv => whnf
  refine ⟨_, rfl, _, append_bytes (ty := 33) o4 (OB.r (OwnS.more o3 x4)) (by omega), ?_⟩
  rintro x h5 ⟨o5, c5, f5⟩
  have x5 := ext_of_chg x4 c5 f4
  conv => whnf
  refine cw_seq (cw_go rfl ?_)
  conv => whnf
  refine ⟨_, rfl, _, rseal_fn (OB.r o5) (by rw [List.length_append]; omega), ?_⟩
  rintro z h6 ⟨o6, x6, f6⟩
  have z5 := ((x1.trans x2).trans (x3.trans x5)).size
  exact cw_ret ⟨z, rfl, o6, ((x1.trans x2).trans (x3.trans x5)).trans x6, fun b hb => by have := f6 b hb; omega⟩
end Go.Proofs.YthigegabdbkhiaaGreatDoor
namespace Go.Proofs.YthigegabdbkhiaaGreatDoor
open Go Vm
set_option maxRecDepth 100000
set_option linter.unusedVariables false
set_option linter.unusedSimpArgs false
def pp (p : Nat) : Value := .pointer (some ⟨p, 0, none⟩)
theorem lru_scanned (n : Int) (hn : 1 ≤ n ∧ n ≤ 4096) (h : Heap) : Fx Tryz.prog 75 #[.int .i64 n] h fun u h' => (∃ p, u = .tuple #[pp p, .int .i64 0]) ∧ ExtH h h' := by
  refine fn_of 14 Tryz.func75 rfl (by kernel_rfl) rfl (by simp) ?_
  refine cw_seq (cw_go rfl ?_)
  conv => whnf
  refine cw_seq (cw_seq (cw_go rfl ?_))
  repeat ((conv => whnf); first | refine ⟨_, Blk.rd ‹Blk _ _ _ _› rfl, ?_⟩ | refine ⟨_, rd_up ‹ExtH _ _› (Blk.rd ‹Blk _ _ _ _› rfl), ?_⟩ | refine And.intro ⟨by omega, by omega⟩ ?_ | refine say_i (by omega) ?_ | refine say_u8 (by omega) ?_ | refine say_u64 (by omega) ?_ | refine say_len ?_ | refine say_at ⟨by omega, by omega⟩ ?_ | refine say_to (by omega) (by omega) ?_ | refine say_from (by omega) (by omega) ?_ | refine say_t (by omega) ?_ | refine say_f (by omega) ?_)
  try (conv => whnf)
  refine cw_false rfl (cw_skip ?_)
  refine cw_seq (cw_go rfl ?_)
  conv => whnf
  intro h1 n1
  conv => whnf
  refine ⟨_, rfl, #[.int .i64 n, .map (some h.size), .pointer none, .pointer none, .int .i64 0, .int .i64 0, .int .i64 0], fun w => by kernel_rfl, ?_⟩
  conv => whnf
  conv => whnf
  intro h2 n2
  exact cw_ret ⟨⟨_, rfl⟩, n1.ext.trans n2.ext⟩
theorem lru_parsed (n : Int) (hn : 1 ≤ n ∧ n ≤ 4096) (h : Heap) : Fx Tryz.prog 76 #[.int .i64 n] h fun u h' => (∃ p, u = .tuple #[pp p, .int .i64 0]) ∧ ExtH h h' := by
  refine fn_of 14 Tryz.func76 rfl (by kernel_rfl) rfl (by simp) ?_
  refine cw_seq (cw_go rfl ?_)
  conv => whnf
  refine cw_seq (cw_seq (cw_go rfl ?_))
  repeat ((conv => whnf); first | refine ⟨_, Blk.rd ‹Blk _ _ _ _› rfl, ?_⟩ | refine ⟨_, rd_up ‹ExtH _ _› (Blk.rd ‹Blk _ _ _ _› rfl), ?_⟩ | refine And.intro ⟨by omega, by omega⟩ ?_ | refine say_i (by omega) ?_ | refine say_u8 (by omega) ?_ | refine say_u64 (by omega) ?_ | refine say_len ?_ | refine say_at ⟨by omega, by omega⟩ ?_ | refine say_to (by omega) (by omega) ?_ | refine say_from (by omega) (by omega) ?_ | refine say_t (by omega) ?_ | refine say_f (by omega) ?_)
  try (conv => whnf)
  refine cw_false rfl (cw_skip ?_)
  refine cw_seq (cw_go rfl ?_)
  conv => whnf
  intro h1 n1
  conv => whnf
  refine ⟨_, rfl, #[.int .i64 n, .map (some h.size), .pointer none, .pointer none, .int .i64 0, .int .i64 0, .int .i64 0], fun w => by kernel_rfl, ?_⟩
  conv => whnf
  conv => whnf
  intro h2 n2
  exact cw_ret ⟨⟨_, rfl⟩, n1.ext.trans n2.ext⟩
theorem lru_checked (n : Int) (hn : 1 ≤ n ∧ n ≤ 4096) (h : Heap) : Fx Tryz.prog 77 #[.int .i64 n] h fun u h' => (∃ p, u = .tuple #[pp p, .int .i64 0]) ∧ ExtH h h' := by
  refine fn_of 14 Tryz.func77 rfl (by kernel_rfl) rfl (by simp) ?_
  refine cw_seq (cw_go rfl ?_)
  conv => whnf
  refine cw_seq (cw_seq (cw_go rfl ?_))
  repeat ((conv => whnf); first | refine ⟨_, Blk.rd ‹Blk _ _ _ _› rfl, ?_⟩ | refine ⟨_, rd_up ‹ExtH _ _› (Blk.rd ‹Blk _ _ _ _› rfl), ?_⟩ | refine And.intro ⟨by omega, by omega⟩ ?_ | refine say_i (by omega) ?_ | refine say_u8 (by omega) ?_ | refine say_u64 (by omega) ?_ | refine say_len ?_ | refine say_at ⟨by omega, by omega⟩ ?_ | refine say_to (by omega) (by omega) ?_ | refine say_from (by omega) (by omega) ?_ | refine say_t (by omega) ?_ | refine say_f (by omega) ?_)
  try (conv => whnf)
  refine cw_false rfl (cw_skip ?_)
  refine cw_seq (cw_go rfl ?_)
  conv => whnf
  intro h1 n1
  conv => whnf
  refine ⟨_, rfl, #[.int .i64 n, .map (some h.size), .pointer none, .pointer none, .int .i64 0, .int .i64 0, .int .i64 0], fun w => by kernel_rfl, ?_⟩
  conv => whnf
  conv => whnf
  intro h2 n2
  exact cw_ret ⟨⟨_, rfl⟩, n1.ext.trans n2.ext⟩
theorem lru_made (n : Int) (hn : 1 ≤ n ∧ n ≤ 4096) (h : Heap) : Fx Tryz.prog 78 #[.int .i64 n] h fun u h' => (∃ p, u = .tuple #[pp p, .int .i64 0]) ∧ ExtH h h' := by
  refine fn_of 14 Tryz.func78 rfl (by kernel_rfl) rfl (by simp) ?_
  refine cw_seq (cw_go rfl ?_)
  conv => whnf
  refine cw_seq (cw_seq (cw_go rfl ?_))
  repeat ((conv => whnf); first | refine ⟨_, Blk.rd ‹Blk _ _ _ _› rfl, ?_⟩ | refine ⟨_, rd_up ‹ExtH _ _› (Blk.rd ‹Blk _ _ _ _› rfl), ?_⟩ | refine And.intro ⟨by omega, by omega⟩ ?_ | refine say_i (by omega) ?_ | refine say_u8 (by omega) ?_ | refine say_u64 (by omega) ?_ | refine say_len ?_ | refine say_at ⟨by omega, by omega⟩ ?_ | refine say_to (by omega) (by omega) ?_ | refine say_from (by omega) (by omega) ?_ | refine say_t (by omega) ?_ | refine say_f (by omega) ?_)
  try (conv => whnf)
  refine cw_false rfl (cw_skip ?_)
  refine cw_seq (cw_go rfl ?_)
  conv => whnf
  intro h1 n1
  conv => whnf
  refine ⟨_, rfl, #[.int .i64 n, .map (some h.size), .pointer none, .pointer none, .int .i64 0, .int .i64 0, .int .i64 0], fun w => by kernel_rfl, ?_⟩
  conv => whnf
  conv => whnf
  intro h2 n2
  exact cw_ret ⟨⟨_, rfl⟩, n1.ext.trans n2.ext⟩
theorem ifresh_fn (n : Int) (hn : 1 ≤ n ∧ n ≤ 4096) (h : Heap) : Fx Tryz.prog 51 #[.int .i64 n] h fun u h' => (∃ a b c d, u = .agg #[pp a, pp b, pp c, pp d]) ∧ ExtH h h' := by
  refine fn_of 29 Tryz.func51 rfl (by kernel_rfl) rfl (by simp) ?_
  refine cw_seq (cw_go rfl ?_)
  intro h1 n1
  conv => whnf
  have y1 := n1.blk
  refine cw_seq (cw_go rfl ?_)
  intro h2 n2
  conv => whnf
  have y2 := n2.blk
  have y12 := n2.ext.blk y1
  have z1 := n1.size
  have z2 := n2.size
  have x2 := n1.ext.trans n2.ext
  clear y1
  refine cw_seq (cw_go rfl ?_)
  conv => whnf
  refine ⟨_, rfl, _, lru_scanned n hn h2, ?_⟩
  rintro _ h3 ⟨⟨a, rfl⟩, x3⟩
  conv => whnf
  refine ⟨_, _, x3.blk y2, by show 0 < 4; decide, ?_⟩
  intro h4 w4
  replace w4 := w4.cast (l' := [pp a, .pointer none, .pointer none, .pointer none]) rfl
  have z3 := x3.size
  have z4 := w4.size
  have x4 : ExtH h h4 := ⟨by omega, fun b hb => by rw [w4.block b (by omega), x3.block b (by omega), x2.block b hb]⟩
  have ya4 := w4.blk (x3.blk y12) (by omega)
  conv => whnf
  refine cw_seq (cw_go rfl ?_)
  conv => whnf
  refine ⟨_, rfl, _, lru_parsed n hn h4, ?_⟩
  rintro _ h5 ⟨⟨b, rfl⟩, x5⟩
  conv => whnf
  refine ⟨_, _, x5.blk w4.new, by show 1 < 4; decide, ?_⟩
  intro h6 w6
  replace w6 := w6.cast (l' := [pp a, pp b, .pointer none, .pointer none]) rfl
  have z5 := x5.size
  have z6 := w6.size
  have x6 : ExtH h h6 := ⟨by omega, fun b hb => by rw [w6.block b (by omega), x5.block b (by omega), x4.block b hb]⟩
  have ya6 := w6.blk (x5.blk ya4) (by omega)
  conv => whnf
  refine cw_seq (cw_go rfl ?_)
  conv => whnf
  refine ⟨_, rfl, _, lru_checked n hn h6, ?_⟩
  rintro _ h7 ⟨⟨c, rfl⟩, x7⟩
  conv => whnf
  refine ⟨_, _, x7.blk w6.new, by show 2 < 4; decide, ?_⟩
  intro h8 w8
  replace w8 := w8.cast (l' := [pp a, pp b, pp c, .pointer none]) rfl
  have z7 := x7.size
  have z8 := w8.size
  have x8 : ExtH h h8 := ⟨by omega, fun b hb => by rw [w8.block b (by omega), x7.block b (by omega), x6.block b hb]⟩
  have ya8 := w8.blk (x7.blk ya6) (by omega)
  conv => whnf
  refine cw_seq (cw_go rfl ?_)
  conv => whnf
  refine ⟨_, rfl, _, lru_made n hn h8, ?_⟩
  rintro _ h9 ⟨⟨d, rfl⟩, x9⟩
  conv => whnf
  refine ⟨_, _, x9.blk w8.new, by show 3 < 4; decide, ?_⟩
  intro h10 w10
  replace w10 := w10.cast (l' := [pp a, pp b, pp c, pp d]) rfl
  have z9 := x9.size
  have z10 := w10.size
  have x10 : ExtH h h10 := ⟨by omega, fun b hb => by rw [w10.block b (by omega), x9.block b (by omega), x8.block b hb]⟩
  have ya10 := w10.blk (x9.blk ya8) (by omega)
  conv => whnf
  refine cw_seq (cw_go rfl ?_)
  conv => whnf
  refine ⟨_, rfl, w10.new.all, ?_⟩
  conv => whnf
  refine ⟨_, _, ya10, ⟨by show 4 ≤ 4; decide, rfl, by simp [pp, Value.oneCell']⟩, ?_⟩
  intro h11 w11
  replace w11 := w11.cast (l' := [pp a, pp b, pp c, pp d]) rfl
  have z11 := w11.size
  exact cw_ret ⟨_, rfl, w11.new.all, ⟨a, b, c, d, rfl⟩, ⟨by omega, fun b hb => by rw [w11.block b (by omega), x10.block b hb]⟩⟩
theorem inew_fn (s n : Int) (hs : 1 ≤ s ∧ s ≤ 64) (hn : 1 ≤ n ∧ n ≤ 4096) (h : Heap) : Fx Tryz.prog 28 #[.int .i64 s, .int .i64 n] h fun u h' => (∃ p, u = .tuple #[pp p, .int .i64 0]) ∧ ExtH h h' := by
  refine fn_of 26 Tryz.func28 rfl (by kernel_rfl) rfl (by simp) ?_
  refine cw_seq (cw_go rfl ?_)
  conv => whnf
  refine cw_seq (cw_seq (cw_go rfl ?_))
  repeat ((conv => whnf); first | refine ⟨_, Blk.rd ‹Blk _ _ _ _› rfl, ?_⟩ | refine ⟨_, rd_up ‹ExtH _ _› (Blk.rd ‹Blk _ _ _ _› rfl), ?_⟩ | refine And.intro ⟨by omega, by omega⟩ ?_ | refine say_i (by omega) ?_ | refine say_u8 (by omega) ?_ | refine say_u64 (by omega) ?_ | refine say_len ?_ | refine say_at ⟨by omega, by omega⟩ ?_ | refine say_to (by omega) (by omega) ?_ | refine say_from (by omega) (by omega) ?_ | refine say_t (by omega) ?_ | refine say_f (by omega) ?_)
  try (conv => whnf)
  refine cw_false rfl (cw_skip ?_)
  refine cw_seq (cw_go rfl ?_)
  conv => whnf
  refine ⟨_, rfl, _, ifresh_fn n hn h, ?_⟩
  rintro _ h1 ⟨⟨a, b, c, d, rfl⟩, x1⟩
  conv => whnf
  refine ⟨_, rfl, #[pp a, pp b, pp c, pp d, .int .i64 s, .int .i64 n, .slice none 0 0], fun w => by kernel_rfl, ?_⟩
  conv => whnf
  conv => whnf
  intro h2 n2
  exact cw_ret ⟨⟨_, rfl⟩, x1.trans n2.ext⟩
theorem snew_fn (h : Heap) : Fx Tryz.prog 29 #[.int .i64 2097152] h fun u h' => (∃ p, u = .tuple #[pp p, .int .i64 0]) ∧ ExtH h h' := by
  refine fn_of 14 Tryz.func29 rfl (by kernel_rfl) rfl (by simp) ?_
  refine cw_seq (cw_go rfl ?_)
  conv => whnf
  refine cw_seq (cw_seq (cw_go rfl ?_))
  repeat ((conv => whnf); first | refine ⟨_, Blk.rd ‹Blk _ _ _ _› rfl, ?_⟩ | refine ⟨_, rd_up ‹ExtH _ _› (Blk.rd ‹Blk _ _ _ _› rfl), ?_⟩ | refine And.intro ⟨by omega, by omega⟩ ?_ | refine say_i (by omega) ?_ | refine say_u8 (by omega) ?_ | refine say_u64 (by omega) ?_ | refine say_len ?_ | refine say_at ⟨by omega, by omega⟩ ?_ | refine say_to (by omega) (by omega) ?_ | refine say_from (by omega) (by omega) ?_ | refine say_t (by omega) ?_ | refine say_f (by omega) ?_)
  try (conv => whnf)
  refine cw_false rfl (cw_skip ?_)
  refine cw_seq (cw_go rfl ?_)
  conv => whnf
  refine ⟨_, rfl, #[.int .i64 2097152, .int .i64 0, .slice none 0 0, .int .i64 0, .int .i64 0, .int .i64 0, .int .i64 0], fun w => by kernel_rfl, ?_⟩
  conv => whnf
  conv => whnf
  refine ⟨_, rfl, #[.int .i64 2097152, .int .i64 0, .slice none 0 0, .int .i64 0, .int .i64 0, .int .i64 0, .int .i64 0], fun w => by kernel_rfl, ?_⟩
  conv => whnf
  conv => whnf
  intro h1 n1
  exact cw_ret ⟨⟨_, rfl⟩, n1.ext⟩
end Go.Proofs.YthigegabdbkhiaaGreatDoor
namespace Go.Proofs.YthigegabdbkhiaaGreatDoor
open Go Vm
set_option maxRecDepth 100000
set_option linter.unusedVariables false
set_option linter.unusedSimpArgs false
def wC (c : Nat) (t : Tl) (d : Nat) (v : Value) : List Value := [pp c, .int .i64 t.s, .int .i64 t.m, .int .i64 t.r, pp d, .slice none 0 0, .int .i64 0, .int .i64 0, v, .bool false]
/-- the worker at p, which says l -/
structure Wrk (h : Heap) (p c d : Nat) (t : Tl) (v : Value) (l : List UInt8) : Prop where
  blk : Blk h p (wC c t d v) 35
  out : OB h v l
theorem Wrk.more {h h' : Heap} {p c d : Nat} {t : Tl} {v : Value} {l : List UInt8} (W : Wrk h p c d t v l) (e : ExtH h h') : Wrk h' p c d t v l := ⟨e.blk W.blk, OwnS.more W.out e⟩
theorem made_fn {h : Heap} {p c d : Nat} {t : Tl} {v : Value} {l : List UInt8} (W : Wrk h p c d t v l) : Fx Tryz.prog 25 #[pp p] h fun u h' => u = .bool true ∧ h' = h := by
  refine fn_of 12 Tryz.func25 rfl (by kernel_rfl) rfl (by simp) ?_
  refine cw_seq (cw_go rfl ?_)
  conv => whnf
  refine cw_seq (cw_go rfl ?_)
  conv => whnf
  refine ⟨.bool true, fun w => by kernel_rfl, ?_⟩
  conv => whnf
  conv => whnf
  refine ⟨_, W.blk.rd (o := 4) rfl, ?_⟩
  conv => whnf
  refine ⟨.bool true, fun w => by kernel_rfl, ?_⟩
  conv => whnf
  conv => whnf
  exact cw_ret ⟨rfl, rfl⟩
theorem say_fn {h : Heap} {p c d : Nat} {t : Tl} {v : Value} {l : List UInt8} (W : Wrk h p c d t v l) (hl : l.length ≤ 1000) (s : Nat) (hs : 1 ≤ s ∧ s ≤ 64) {g : List UInt8} (hg : g.length = 32) :
    Fx Tryz.prog 23 #[pp p, .agg (frC 1 1 s g).toArray] h fun _ h' => ∃ v', Wrk h' p c d t v' (l ++ encS s g) ∧ Chg (fun b => b = p ∨ ob v b) h h' ∧ ∀ b, ob v' b → ob v b ∨ h.size ≤ b := by
  refine fn_of 20 Tryz.func23 rfl (by kernel_rfl) rfl (by simp) ?_
  have hbl := bodyS_len hs.2 hg
  have hel : (encS s g).length ≤ 1000 := by
    have ul := uvar_10 (show (bodyS s g).length < 18446744073709551616 by omega)
    unfold encS Crc.sealB Crc.bytes4
    simp only [List.length_append, List.length_cons, List.length_nil]
    omega
  refine cw_seq (cw_go rfl ?_)
  intro h1 n1
  conv => whnf
  have y1 : Blk h1 h.size (frC 1 1 s g) 79 := n1.blk
  have z1 := n1.size
  refine cw_seq (cw_go rfl ?_)
  conv => whnf
  refine ⟨_, by rw [frC_length hg]; rfl, y1.all, ?_⟩
  conv => whnf
  refine ⟨_, rfl, _, encode_fn s hs hg h1, ?_⟩
  rintro _ h2 ⟨e, rfl, o2, x2, f2⟩
  obtain ⟨ea, ec, hee, _⟩ := Vm.Src.form (OB.r o2)
  subst hee
  have W2 := W.more (n1.ext.trans x2)
  have z2 := x2.size
  conv => whnf
  refine cw_go rfl ?_
  conv => whnf
  refine ⟨_, W2.blk.rd (o := 8) rfl, ?_⟩
  conv => whnf
  refine ⟨_, rfl, _, append_bytes (ty := 33) W2.out (OB.r o2) (by omega), ?_⟩
  rintro u h3 ⟨o3, c3, f3⟩
  obtain ⟨ua, uc, hue, _⟩ := Vm.Src.form (OB.r o3)
  subst hue
  have hne : ¬ ob v p := OwnS.ne W2.out W2.blk (by decide)
  have b3 := c3.blk W2.blk hne
  conv => whnf
  refine ⟨_, _, b3, by show 8 < 10; decide, ?_⟩
  intro h4 w4
  replace w4 := w4.cast (l' := wC c t d (.slice ua (l ++ encS s g).length uc)) rfl
  have z3 := c3.size
  have z4 := w4.size
  refine ⟨_, ⟨w4.new, OwnS.keep o3 w4.chg (fun b hb e => by subst e; exact OwnS.ne o3 b3 (by decide) hb)⟩, ⟨by omega, fun b hb hn => ?_⟩, fun b hb => (f3 b hb).elim (fun e => .inl e) (fun e => .inr (by omega))⟩
  rw [w4.block b (fun e => hn (.inl e)), c3.block b (by omega) (fun e => hn (.inr e)), x2.block b (by omega), n1.block b hb]
theorem tnew_no {t : Tl} (hm : mayS t = false) (h : Heap) : Fx Tryz.prog 15 #[.agg (tlC t).toArray] h fun u h' => u = .tuple #[.pointer none, .int .i64 250] ∧ ExtH h h' := by
  refine fn_of 37 Tryz.func15 rfl (by kernel_rfl) rfl (by simp) ?_
  refine cw_seq (cw_go rfl ?_)
  intro h1 n1
  conv => whnf
  have y1 : Blk h1 h.size (tlC t) 27 := n1.blk
  refine cw_seq (cw_seq (cw_go rfl ?_))
  conv => whnf
  refine ⟨_, rfl, y1.all, ?_⟩
  conv => whnf
  refine ⟨_, rfl, _, may_fn t h1, ?_⟩
  rw [hm]
  rintro _ h2 ⟨rfl, x2⟩
  conv => whnf
  refine cw_true rfl ?_
  refine cw_seq (cw_go rfl ?_)
  conv => whnf
  exact cw_ret ⟨rfl, n1.ext.trans x2⟩
theorem may_in {t : Tl} (h : mayS t = true) : (1 ≤ t.s ∧ t.s ≤ 64) ∧ (1 ≤ t.m ∧ t.m ≤ 4096) ∧ 1 ≤ t.r ∧ t.r ≤ 4194304 := by
  unfold mayS at h
  simp at h
  omega
theorem may_64 {t : Tl} (h : mayS t = true) : Tl64 t := by
  have := may_in h
  exact ⟨by omega, by omega, by omega⟩
def saidS (t : Tl) : List UInt8 := encS t.s.toNat (keyS t)
theorem tnew_fn {t : Tl} (hm : mayS t = true) (h : Heap) : Fx Tryz.prog 15 #[.agg (tlC t).toArray] h fun u h' => ∃ p c d v, u = .tuple #[pp p, .int .i64 0] ∧ Wrk h' p c d t v (saidS t) ∧ ExtH h h' ∧ h.size ≤ p ∧ ∀ b, ob v b → h.size ≤ b := by
  refine fn_of 37 Tryz.func15 rfl (by kernel_rfl) rfl (by simp) ?_
  obtain ⟨hs, hn, hr⟩ := may_in hm
  refine cw_seq (cw_go rfl ?_)
  intro h1 n1
  conv => whnf
  have y1 : Blk h1 h.size (tlC t) 27 := n1.blk
  have x1 := n1.ext
  have z1 := n1.size
  refine cw_seq (cw_seq (cw_go rfl ?_))
  conv => whnf
  refine ⟨_, rfl, y1.all, ?_⟩
  conv => whnf
  refine ⟨_, rfl, _, may_fn t h1, ?_⟩
  rw [hm]
  rintro _ h2 ⟨rfl, x2⟩
  have y2 := x2.blk y1
  conv => whnf
  refine cw_false rfl (cw_skip ?_)
  refine cw_seq (cw_go rfl ?_)
  conv => whnf
  refine ⟨_, y2.rd (o := 0) rfl, ?_⟩
  conv => whnf
  refine ⟨_, y2.rd (o := 1) rfl, ?_⟩
  conv => whnf
  refine ⟨_, rfl, _, inew_fn t.s t.m hs hn h2, ?_⟩
  rintro _ h3 ⟨⟨c, rfl⟩, x3⟩
  conv => whnf
  refine cw_seq (cw_go rfl ?_)
  conv => whnf
  refine ⟨_, rfl, _, snew_fn h3, ?_⟩
  rintro _ h4 ⟨⟨d, rfl⟩, x4⟩
  have y4 := (x3.trans x4).blk y2
  conv => whnf
  refine cw_seq (cw_go rfl ?_)
  conv => whnf
  refine ⟨_, rfl, y4.all, ?_⟩
  conv => whnf
  refine ⟨_, rfl, (wC c t d (.slice none 0 0)).toArray, fun w => by kernel_rfl, ?_⟩
  conv => whnf
  conv => whnf
  intro h5 n5
  have W5 : Wrk h5 h4.size c d t (.slice none 0 0) [] := ⟨n5.blk, OB.nil h5⟩
  have y5 := n5.ext.blk y4
  have x5 := (x1.trans x2).trans ((x3.trans x4).trans n5.ext)
  have zz := ((x1.trans x2).trans (x3.trans x4)).size
  conv => whnf
  have es : t.s = ((t.s.toNat : Nat) : Int) := by omega
  refine cw_seq (cw_dgo (by kernel_rfl) 6 (List.range 6) (by kernel_rfl) rfl ?_)
  conv => whnf
  refine ⟨_, y5.rd (o := 0) rfl, ?_⟩
  conv => whnf
  refine ⟨_, rfl, y5.all, ?_⟩
  conv => whnf
  refine ⟨_, rfl, _, (fun g e => key_fn (may_64 hm) g), ?_⟩
  conv => whnf
  refine ⟨_, rfl, _, (fun g e => Hello_fn t.s (keyS_length t) g), ?_⟩
  conv => whnf
  intro h6 e6
  conv => whnf
  rw [es]
  refine ⟨_, rfl, _, say_fn (W5.more e6) (by simp) t.s.toNat ⟨by omega, by omega⟩ (keyS_length t), ?_⟩
  rintro u h7 ⟨v, W7, c7, f7⟩
  conv => whnf
  refine cw_seq (cw_go rfl ?_)
  conv => whnf
  have z6 := (x5.trans e6).size
  refine cw_ret ⟨h4.size, c, d, v, rfl, W7, ⟨by have := c7.size; omega, fun b hb => ?_⟩, by omega, fun b hb => (f7 b hb).elim (fun e => (ob_nil e).elim) (fun e => by omega)⟩
  rw [c7.block b (by omega) (fun e => e.elim (fun e => by omega) (fun e => (ob_nil e).elim)), (x5.trans e6).block b hb]
theorem out_fn {h : Heap} {p c d : Nat} {t : Tl} {v : Value} {l : List UInt8} (W : Wrk h p c d t v l) : Fx Tryz.prog 10 #[pp p] h fun u h' => u = .int .i64 (l.length : Int) ∧ h' = h := by
  refine fn_of 11 Tryz.func10 rfl (by kernel_rfl) rfl (by simp) ?_
  obtain ⟨va, vc, hve, _⟩ := Vm.Src.form (OB.r W.out)
  subst hve
  refine cw_seq (cw_go rfl ?_)
  conv => whnf
  refine cw_seq (cw_seq (cw_go rfl ?_))
  conv => whnf
  refine ⟨_, rfl, _, made_fn W, ?_⟩
  rintro _ h1 ⟨rfl, e⟩
  replace e := e.symm
  subst e
  conv => whnf
  refine cw_false rfl (cw_skip ?_)
  refine cw_seq (cw_go rfl ?_)
  conv => whnf
  refine ⟨_, W.blk.rd (o := 8) rfl, ?_⟩
  conv => whnf
  exact cw_ret ⟨rfl, rfl⟩
theorem takes_fn {h : Heap} {p c d : Nat} {t : Tl} {v : Value} {l : List UInt8} (W : Wrk h p c d t v l) (ht : 1 ≤ t.s ∧ t.s ≤ 64) : Fx Tryz.prog 8 #[pp p] h fun u h' => u = .bool true ∧ ExtH h h' := by
  refine fn_of 35 Tryz.func8 rfl (by kernel_rfl) rfl (by simp) ?_
  refine cw_seq (cw_go rfl ?_)
  conv => whnf
  refine cw_seq (cw_dgo (by kernel_rfl) 32 (List.range 32) (by kernel_rfl) rfl ?_)
  conv => whnf
  refine ⟨_, rfl, _, (fun g e => (made_fn (W.more e)).mono (fun _ _ ⟨e1, e2⟩ => ⟨e1, e2 ▸ ExtH.refl _⟩)), ?_⟩
  conv => whnf
  refine ⟨_, W.blk.rd (o := 9) rfl, ?_⟩
  conv => whnf
  refine ⟨_, rfl, W.blk.rdN 6 [.int .i64 0, .int .i64 0] rfl, ?_⟩
  conv => whnf
  refine ⟨_, rfl, #[.int .i64 0, .int .i64 0], fun w => by kernel_rfl, ?_⟩
  conv => whnf
  conv => whnf
  refine ⟨.bool true, fun w => by kernel_rfl, ?_⟩
  conv => whnf
  conv => whnf
  refine ⟨_, W.blk.rd (o := 5) rfl, ?_⟩
  conv => whnf
  refine ⟨_, W.blk.rd (o := 1) rfl, ?_⟩
  conv => whnf
  refine say_i (by omega) ?_
  conv => whnf
  refine say_i (by omega) ?_
  conv => whnf
  refine say_t (by omega) ?_
  conv => whnf
  intro h1 e1
  exact cw_ret ⟨rfl, e1⟩
end Go.Proofs.YthigegabdbkhiaaGreatDoor
namespace Go.Proofs.YthigegabdbkhiaaGreatDoor
open Go Vm
set_option maxRecDepth 100000
set_option linter.unusedVariables false
set_option linter.unusedSimpArgs false
theorem min_int (ts : Array TypeId) (t : TypeId) (a b : Int) (h : Heap) : RunsV Tryz.prog (Builtin.min_ ts t #[.int .i64 a, .int .i64 b]) h fun u h' => u = .int .i64 (min a b) ∧ h' = h := fun w hw =>
  ⟨_, w, run_min_int2 (P := Tryz.prog) w ts t .i64 .i64 a b, SameEnv.refl w, by congr 1; split <;> omega, hw⟩
theorem wtake_fn {h : Heap} {p c d : Nat} {t : Tl} {v : Value} {l : List UInt8} (W : Wrk h p c d t v l) (h1 : 1 ≤ l.length) (h2 : l.length ≤ 999) :
    Fx Tryz.prog 7 #[pp p, .int .i64 999] h fun u h' => OB h' u l ∧ Chg (fun b => b = p ∨ ob v b) h h' := by
  refine fn_of 46 Tryz.func7 rfl (by kernel_rfl) rfl (by simp) ?_
  obtain ⟨va, vc, hve, hvm⟩ := Vm.Src.form (OB.r W.out)
  subst hve
  refine cw_seq (cw_go rfl ?_)
  conv => whnf
  refine cw_seq (cw_seq (cw_go rfl ?_))
  conv => whnf
  refine ⟨_, rfl, _, made_fn W, ?_⟩
  rintro _ h1' ⟨rfl, e⟩
  replace e := e.symm
  subst e
  conv => whnf
  refine say_f (by decide) ?_
  conv => whnf
  refine ⟨_, W.blk.rd (o := 8) rfl, ?_⟩
  conv => whnf
  refine say_f (by omega) ?_
  conv => whnf
  refine cw_false rfl (cw_skip ?_)
  refine cw_seq (cw_go rfl ?_)
  conv => whnf
  refine ⟨_, W.blk.rd (o := 8) rfl, ?_⟩
  conv => whnf
  refine ⟨_, rfl, _, min_int #[3, 3] 3 999 (l.length : Int) h, ?_⟩
  rintro _ h2' ⟨rfl, e⟩
  replace e := e.symm
  subst e
  conv => whnf
  rw [show min (999 : Int) (l.length : Int) = (l.length : Int) by omega]
  refine cw_seq (cw_go rfl ?_)
  conv => whnf
  refine ⟨_, W.blk.rd (o := 8) rfl, ?_⟩
  conv => whnf
  obtain ⟨g1, A1, hA1, hR1⟩ := RB.cut (OB.r W.out) 0 l.length (Nat.zero_le _) (Nat.le_refl _) (x := 0) rfl (y := (l.length : Int)) rfl
  refine ⟨g1, A1, hA1, ?_⟩
  rw [List.drop_zero, Nat.sub_zero, List.take_length] at hR1
  conv => whnf
  refine ⟨_, rfl, _, append_bytes (ty := 33) (OB.nil h) hR1 (by simp; omega), ?_⟩
  rintro u h3 ⟨o3, c3, f3⟩
  rw [List.nil_append] at o3
  have x3 : ExtH h h3 := c3.ext (fun b hb => (ob_nil hb).elim)
  have fu : ∀ b, ob u b → h.size ≤ b := fun b hb => (f3 b hb).elim (fun e => (ob_nil e).elim) (fun e => e)
  have W3 := W.more x3
  obtain ⟨ua, uc, hue, _⟩ := Vm.Src.form (OB.r o3)
  subst hue
  conv => whnf
  refine cw_seq (cw_go rfl ?_)
  conv => whnf
  refine ⟨_, W3.blk.rd (o := 8) rfl, ?_⟩
  conv => whnf
  obtain ⟨g2, A2, hA2, hR2⟩ := RB.cut (OB.r W3.out) l.length l.length (Nat.le_refl _) (Nat.le_refl _) (x := (l.length : Int)) rfl (y := (l.length : Int)) rfl
  refine ⟨g2, A2, hA2, ?_⟩
  have e0 : (l.drop l.length).take (l.length - l.length) = [] := by simp
  rw [e0] at hR2
  conv => whnf
  refine ⟨_, rfl, _, append_bytes (ty := 33) (OB.nil h3) hR2 (by simp), ?_⟩
  rintro w h4 ⟨o4, c4, f4⟩
  have x4 : ExtH h3 h4 := c4.ext (fun b hb => (ob_nil hb).elim)
  obtain ⟨wa, wc, hwe, _⟩ := Vm.Src.form (OB.r o4)
  subst hwe
  conv => whnf
  refine ⟨_, _, (W3.more x4).blk, by show 8 < 10; decide, ?_⟩
  intro h5 w5
  have z3 := x3.size
  have z4 := x4.size
  have z5 := w5.size
  have lp := W.blk.lt
  conv => whnf
  refine cw_seq (cw_go rfl ?_)
  conv => whnf
  refine cw_ret ⟨OwnS.keep (OwnS.more o3 x4) w5.chg (fun b hb e => by have := fu b hb; omega), ⟨by omega, fun b hb hn => ?_⟩⟩
  rw [w5.block b (fun e => hn (.inl e)), x4.block b (by omega), x3.block b hb]
end Go.Proofs.YthigegabdbkhiaaGreatDoor
namespace Go.Proofs.YthigegabdbkhiaaGreatDoor
open Go Vm
set_option maxRecDepth 100000
set_option linter.unusedVariables false
set_option linter.unusedSimpArgs false
def stC (m : Int) : List Value := [.int .i64 m, .slice none 0 0, .int .i64 0, .int .i64 0, .int .i64 0, .int .i64 0, .slice none 0 0]
def coC (s n : Int) : List Value := [.int .i64 s, .int .i64 n, .slice none 0 0, .slice none 0 0, .int .i64 0, .int .i64 0, .int .i64 0, .slice none 0 0, .int .i64 0, .int .i64 0, .int .i64 0, .slice none 0 0, .int .i64 0, .int .i64 0, .int .i64 0, .slice none 0 0, .int .i64 0, .int .i64 0, .int .i64 0]
def rW (t : Tl) (m s n : Int) (v : Value) : List Value := tlC t ++ stC m ++ [.slice none 0 0, .int .i64 0, .int .i64 0] ++ coC s n ++ [v, .bool false]
theorem rsnew_fn (h : Heap) : Fx Tryz.prog 33 #[.int .i64 2097152] h fun u h' => u = .tuple #[.agg (stC 2097152).toArray, .int .i64 0] ∧ ExtH h h' := by
  refine fn_of 13 Tryz.func33 rfl (by kernel_rfl) rfl (by simp) ?_
  refine cw_seq (cw_go rfl ?_)
  intro h1 n1
  conv => whnf
  have y1 : Blk h1 h.size (stC 0) 55 := n1.blk
  have z1 := n1.size
  refine cw_seq (cw_seq (cw_go rfl ?_))
  repeat ((conv => whnf); first | refine ⟨_, Blk.rd ‹Blk _ _ _ _› rfl, ?_⟩ | refine ⟨_, rd_up ‹ExtH _ _› (Blk.rd ‹Blk _ _ _ _› rfl), ?_⟩ | refine And.intro ⟨by omega, by omega⟩ ?_ | refine say_i (by omega) ?_ | refine say_u8 (by omega) ?_ | refine say_u64 (by omega) ?_ | refine say_len ?_ | refine say_at ⟨by omega, by omega⟩ ?_ | refine say_to (by omega) (by omega) ?_ | refine say_from (by omega) (by omega) ?_ | refine say_t (by omega) ?_ | refine say_f (by omega) ?_)
  try (conv => whnf)
  refine cw_false rfl (cw_skip ?_)
  refine cw_seq (cw_go rfl ?_)
  conv => whnf
  refine ⟨_, rfl, (stC 2097152).toArray, fun w => by kernel_rfl, ?_⟩
  conv => whnf
  conv => whnf
  refine ⟨_, _, y1, ⟨by show 7 ≤ 7; decide, rfl, by simp [stC, Value.oneCell']⟩, ?_⟩
  intro h2 w2
  replace w2 := w2.cast (l' := stC 2097152) rfl
  have z2 := w2.size
  exact cw_ret ⟨_, rfl, w2.new.all, rfl, ⟨by omega, fun b hb => by rw [w2.block b (by omega), n1.block b hb]⟩⟩
theorem rcnew_fn (s n : Int) (hs : 1 ≤ s ∧ s ≤ 64) (hn : 1 ≤ n ∧ n ≤ 4096) (h : Heap) : Fx Tryz.prog 34 #[.int .i64 s, .int .i64 n] h fun u h' => u = .tuple #[.agg (coC s n).toArray, .int .i64 0] ∧ ExtH h h' := by
  refine fn_of 24 Tryz.func34 rfl (by kernel_rfl) rfl (by simp) ?_
  refine cw_seq (cw_go rfl ?_)
  intro h1 n1
  conv => whnf
  have y1 : Blk h1 h.size (coC 0 0) 61 := n1.blk
  have z1 := n1.size
  refine cw_seq (cw_seq (cw_go rfl ?_))
  repeat ((conv => whnf); first | refine ⟨_, Blk.rd ‹Blk _ _ _ _› rfl, ?_⟩ | refine ⟨_, rd_up ‹ExtH _ _› (Blk.rd ‹Blk _ _ _ _› rfl), ?_⟩ | refine And.intro ⟨by omega, by omega⟩ ?_ | refine say_i (by omega) ?_ | refine say_u8 (by omega) ?_ | refine say_u64 (by omega) ?_ | refine say_len ?_ | refine say_at ⟨by omega, by omega⟩ ?_ | refine say_to (by omega) (by omega) ?_ | refine say_from (by omega) (by omega) ?_ | refine say_t (by omega) ?_ | refine say_f (by omega) ?_)
  try (conv => whnf)
  refine cw_false rfl (cw_skip ?_)
  refine cw_seq (cw_go rfl ?_)
  conv => whnf
  refine ⟨_, rfl, (coC s n).toArray, fun w => by kernel_rfl, ?_⟩
  conv => whnf
  conv => whnf
  refine ⟨_, _, y1, ⟨by show 19 ≤ 19; decide, rfl, by simp [coC, Value.oneCell']⟩, ?_⟩
  intro h2 w2
  replace w2 := w2.cast (l' := coC s n) rfl
  have z2 := w2.size
  exact cw_ret ⟨_, rfl, w2.new.all, rfl, ⟨by omega, fun b hb => by rw [w2.block b (by omega), n1.block b hb]⟩⟩
theorem rsay_fn {h : Heap} {p : Nat} {t : Tl} {m s0 n0 : Int} (W : Blk h p (rW t m s0 n0 (.slice none 0 0)) 63) (s : Nat) (hs : 1 ≤ s ∧ s ≤ 64) {g : List UInt8} (hg : g.length = 32) :
    Fx Tryz.prog 35 #[pp p, .agg (frC 1 1 s g).toArray] h fun _ h' => ∃ v, Blk h' p (rW t m s0 n0 v) 63 ∧ OB h' v (encS s g) ∧ (∃ a c, v = .slice a (encS s g).length c) ∧ Chg (fun b => b = p) h h' ∧ ∀ b, ob v b → h.size ≤ b := by
  refine fn_of 21 Tryz.func35 rfl (by kernel_rfl) rfl (by simp) ?_
  have hbl := bodyS_len hs.2 hg
  have hel : (encS s g).length ≤ 1000 := by
    have ul := uvar_10 (show (bodyS s g).length < 18446744073709551616 by omega)
    unfold encS Crc.sealB Crc.bytes4
    simp only [List.length_append, List.length_cons, List.length_nil]
    omega
  refine cw_seq (cw_go rfl ?_)
  intro h1 n1
  conv => whnf
  have y1 : Blk h1 h.size (frC 1 1 s g) 79 := n1.blk
  have z1 := n1.size
  refine cw_seq (cw_go rfl ?_)
  conv => whnf
  refine ⟨_, by rw [frC_length hg]; rfl, y1.all, ?_⟩
  conv => whnf
  refine ⟨_, rfl, _, rencode_fn s hs hg h1, ?_⟩
  rintro _ h2 ⟨e, rfl, o2, x2, f2⟩
  obtain ⟨ea, ec, hee, _⟩ := Vm.Src.form (OB.r o2)
  subst hee
  have x02 := n1.ext.trans x2
  have z2 := x2.size
  conv => whnf
  refine cw_go rfl ?_
  conv => whnf
  refine ⟨_, (x02.blk W).rd (o := 32) rfl, ?_⟩
  conv => whnf
  refine ⟨_, rfl, _, append_bytes (ty := 33) (OB.nil h2) (OB.r (OB.nil h2)) (by simp), ?_⟩
  rintro u h3 ⟨o3, c3, f3⟩
  have x3 : ExtH h2 h3 := c3.ext (fun b hb => (ob_nil hb).elim)
  have fu : ∀ b, ob u b → h2.size ≤ b := fun b hb => (f3 b hb).elim (fun e => (ob_nil e).elim) (fun e => e)
  conv => whnf
  refine ⟨_, rfl, _, append_bytes (ty := 33) o3 (OB.r (OwnS.more o2 x3)) (by simp; omega), ?_⟩
  rintro w h4 ⟨o4, c4, f4⟩
  rw [List.nil_append, List.nil_append] at o4
  have x4 := ext_of_chg x3 c4 fu
  obtain ⟨wa, wc, hwe, _⟩ := Vm.Src.form (OB.r o4)
  subst hwe
  have W4 := (x02.trans x4).blk W
  conv => whnf
  refine ⟨_, _, W4, by show 32 < 34; decide, ?_⟩
  intro h5 w5
  replace w5 := w5.cast (l' := rW t m s0 n0 (.slice wa (encS s g).length wc)) rfl
  have z3 := x3.size
  have z4 := x4.size
  have z5 := w5.size
  have lp := W.lt
  have fw : ∀ b, ob (.slice wa (encS s g).length wc) b → h.size ≤ b := fun b hb => (f4 b hb).elim (fun e => by have := fu b e; omega) (fun e => by omega)
  refine ⟨_, w5.new, OwnS.keep o4 w5.chg (fun b hb e => by have := fw b hb; omega), ⟨_, _, rfl⟩, ⟨by omega, fun b hb hn => ?_⟩, fw⟩
  rw [w5.block b hn, x4.block b (by omega), x2.block b (by omega), n1.block b hb]
theorem rtnew_no {t : Tl} (hm : mayS t = false) (h : Heap) : Fx Tryz.prog 16 #[.agg (tlC t).toArray] h fun u h' => u = .tuple #[.agg (rW tz 0 0 0 (.slice none 0 0)).toArray, .int .i64 250] ∧ ExtH h h' := by
  refine fn_of 32 Tryz.func16 rfl (by kernel_rfl) rfl (by simp) ?_
  refine cw_seq (cw_go rfl ?_)
  intro h1 n1
  conv => whnf
  have y1 : Blk h1 h.size (tlC t) 27 := n1.blk
  intro h2 n2
  conv => whnf
  have y2 : Blk h2 h1.size (rW tz 0 0 0 (.slice none 0 0)) 63 := n2.blk
  have y12 := n2.ext.blk y1
  have z1 := n1.size
  have z2 := n2.size
  refine cw_seq (cw_seq (cw_go rfl ?_))
  conv => whnf
  refine ⟨_, rfl, y12.all, ?_⟩
  conv => whnf
  refine ⟨_, rfl, _, rmay_fn t h2, ?_⟩
  rw [hm]
  rintro _ h3 ⟨rfl, x3⟩
  conv => whnf
  refine cw_true rfl ?_
  refine cw_seq (cw_go rfl ?_)
  conv => whnf
  refine ⟨_, rfl, (rW tz 0 0 0 (.slice none 0 0)).toArray, fun w => by kernel_rfl, ?_⟩
  conv => whnf
  conv => whnf
  refine ⟨_, _, x3.blk y2, ⟨by show 34 ≤ 34; decide, rfl, by simp [rW, tlC, stC, coC, Value.oneCell']⟩, ?_⟩
  intro h4 w4
  replace w4 := w4.cast (l' := rW tz 0 0 0 (.slice none 0 0)) rfl
  have z3 := x3.size
  have z4 := w4.size
  exact cw_ret ⟨_, rfl, w4.new.all, rfl, ⟨by omega, fun b hb => by rw [w4.block b (by omega), x3.block b (by omega), n2.block b (by omega), n1.block b hb]⟩⟩
theorem rtnew_fn {t : Tl} (hm : mayS t = true) {h : Heap} (T : Tab h) : Fx Tryz.prog 16 #[.agg (tlC t).toArray] h fun u h' => ∃ v, u = .tuple #[.agg (rW t 2097152 t.s t.m v).toArray, .int .i64 0] ∧ OB h' v (saidS t) ∧ (∃ a c, v = .slice a (saidS t).length c) ∧ ExtH h h' ∧ ∀ b, ob v b → h.size ≤ b := by
  refine fn_of 32 Tryz.func16 rfl (by kernel_rfl) rfl (by simp) ?_
  obtain ⟨hs, hn, hr⟩ := may_in hm
  refine cw_seq (cw_go rfl ?_)
  intro h1 n1
  conv => whnf
  have y1 : Blk h1 h.size (tlC t) 27 := n1.blk
  intro h2 n2
  conv => whnf
  have y2 : Blk h2 h1.size (rW tz 0 0 0 (.slice none 0 0)) 63 := n2.blk
  have y12 := n2.ext.blk y1
  have x2 := n1.ext.trans n2.ext
  have z1 := n1.size
  have z2 := n2.size
  refine cw_seq (cw_seq (cw_go rfl ?_))
  conv => whnf
  refine ⟨_, rfl, y12.all, ?_⟩
  conv => whnf
  refine ⟨_, rfl, _, rmay_fn t h2, ?_⟩
  rw [hm]
  rintro _ h3 ⟨rfl, x3⟩
  have y3 := x3.blk y12
  have yr3 := x3.blk y2
  conv => whnf
  refine cw_false rfl (cw_skip ?_)
  refine cw_seq (cw_go rfl ?_)
  conv => whnf
  refine ⟨_, rfl, y3.all, ?_⟩
  conv => whnf
  refine ⟨_, rfl, (rW t 0 0 0 (.slice none 0 0)).toArray, fun w => by kernel_rfl, ?_⟩
  conv => whnf
  intro h4 n4
  conv => whnf
  have y4 : Blk h4 h3.size (rW tz 0 0 0 (.slice none 0 0)) 63 := n4.blk
  refine ⟨_, _, y4, ⟨by show 34 ≤ 34; decide, rfl, by simp [rW, tlC, stC, coC, Value.oneCell']⟩, ?_⟩
  intro h5 w5
  replace w5 := w5.cast (l' := rW t 0 0 0 (.slice none 0 0)) rfl
  have z3 := x3.size
  have z4 := n4.size
  have z5 := w5.size
  have x35 : ExtH h3 h5 := ⟨by omega, fun b hb => by rw [w5.block b (by omega), n4.block b hb]⟩
  conv => whnf
  refine cw_seq (cw_go rfl ?_)
  conv => whnf
  refine ⟨_, rfl, _, rsnew_fn h5, ?_⟩
  rintro _ h6 ⟨rfl, x6⟩
  conv => whnf
  refine ⟨_, _, x6.blk w5.new, ⟨by show 3 + 7 ≤ 34; decide, rfl, by simp [stC, Value.oneCell']⟩, ?_⟩
  intro h7 w7
  replace w7 := w7.cast (l' := rW t 2097152 0 0 (.slice none 0 0)) rfl
  have z6 := x6.size
  have z7 := w7.size
  have x37 : ExtH h3 h7 := ⟨by omega, fun b hb => by rw [w7.block b (by omega), x6.block b (by omega), x35.block b hb]⟩
  have y7 := x37.blk y3
  conv => whnf
  refine cw_seq (cw_go rfl ?_)
  conv => whnf
  refine ⟨_, y7.rd (o := 0) rfl, ?_⟩
  conv => whnf
  refine ⟨_, y7.rd (o := 1) rfl, ?_⟩
  conv => whnf
  refine ⟨_, rfl, _, rcnew_fn t.s t.m hs hn h7, ?_⟩
  rintro _ h8 ⟨rfl, x8⟩
  conv => whnf
  refine ⟨_, _, x8.blk w7.new, ⟨by show 13 + 19 ≤ 34; decide, rfl, by simp [coC, Value.oneCell']⟩, ?_⟩
  intro h9 w9
  replace w9 := w9.cast (l' := rW t 2097152 t.s t.m (.slice none 0 0)) rfl
  have z8 := x8.size
  have z9 := w9.size
  have x39 : ExtH h3 h9 := ⟨by omega, fun b hb => by rw [w9.block b (by omega), x8.block b (by omega), x37.block b hb]⟩
  have y9 := x39.blk y3
  have yr9 := x39.blk yr3
  have W9 := w9.new
  have T9 := T.more ((x2.trans x3).trans x39)
  have es : t.s = ((t.s.toNat : Nat) : Int) := by omega
  conv => whnf
  refine cw_seq (cw_dgo (by kernel_rfl) 5 (List.range 5) (by kernel_rfl) rfl ?_)
  conv => whnf
  refine ⟨_, y9.rd (o := 0) rfl, ?_⟩
  conv => whnf
  refine ⟨_, rfl, y9.all, ?_⟩
  conv => whnf
  refine ⟨_, rfl, _, (fun g e => rkey_fn (may_64 hm) (T9.more e)), ?_⟩
  conv => whnf
  refine ⟨_, rfl, (frC 1 1 t.s (keyS t)).toArray, build_4 t.s (keyS t) (keyS_length t), ?_⟩
  conv => whnf
  intro h10 e10
  conv => whnf
  rw [es]
  refine ⟨_, rfl, _, rsay_fn (e10.blk W9) t.s.toNat ⟨by omega, by omega⟩ (keyS_length t), ?_⟩
  rw [← es]
  rintro u h11 ⟨v, W11, o11, ⟨a, c, hv⟩, c11, f11⟩
  have z10 := e10.size
  have z11 := c11.size
  have lr := yr9.lt
  have x11 : ExtH h3 h11 := ⟨by omega, fun b hb => by rw [c11.block b (by omega) (by omega), e10.block b (by omega), x39.block b hb]⟩
  have yr11 := x11.blk yr3
  subst hv
  conv => whnf
  refine cw_seq (cw_go rfl ?_)
  conv => whnf
  refine ⟨_, rfl, W11.all, ?_⟩
  conv => whnf
  refine ⟨_, _, yr11, ⟨by show 34 ≤ 34; decide, rfl, by simp [rW, tlC, stC, coC, Value.oneCell']⟩, ?_⟩
  intro h12 w12
  replace w12 := w12.cast (l' := rW t 2097152 t.s t.m (.slice a (saidS t).length c)) rfl
  have z12 := w12.size
  have z23 := x2.size
  refine cw_ret ⟨_, rfl, w12.new.all, _, rfl, OwnS.keep o11 w12.chg (fun b hb e => by have := f11 b hb; omega), ⟨_, _, rfl⟩, ⟨by omega, fun b hb => ?_⟩, fun b hb => by have := f11 b hb; omega⟩
  rw [w12.block b (by omega), x11.block b (by omega), x3.block b (by omega), x2.block b hb]
end Go.Proofs.YthigegabdbkhiaaGreatDoor
