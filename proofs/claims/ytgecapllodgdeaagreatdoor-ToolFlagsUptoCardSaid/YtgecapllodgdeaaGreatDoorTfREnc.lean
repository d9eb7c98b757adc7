/-
  Hello frames: the document's only, Same, body, Check, Encode.
  Hello frames: the document's body, Check, Encode.
-/
import Derived.Test.YtgecapllodgdeaaGreatDoorTfCheck
namespace Go.Proofs.YtgecapllodgdeaaGreatDoor
open Go Vm
set_option maxRecDepth 100000
set_option linter.unusedVariables false
set_option linter.unusedSimpArgs false
theorem rsame_nil (h : Heap) : Fx Tryz.prog 122 #[.slice none 0 0, .slice none 0 0] h fun u h' => u = .bool true ∧ h' = h := by
  refine fn_of 26 Tryz.func122 rfl (by kernel_rfl) rfl (by simp) ?_
  refine cw_seq (cw_go rfl ?_)
  conv => whnf
  refine cw_seq (cw_seq (cw_go rfl ?_))
  conv => whnf
  refine say_f (by decide) ?_
  conv => whnf
  refine cw_false rfl (cw_skip ?_)
  refine cw_seq (cw_seq (cw_go rfl ?_))
  conv => whnf
  refine cw_block ?_
  refine cw_loop (S := Nat) (fun i => [(0, .slice none 0 0), (1, .slice none 0 0), (5, .int .i64 0)]) (fun i h' => h' = h) (fun i => i) 0 ⟨rfl, rfl, rfl, trivial⟩ rfl ?_
  rintro i _ rfl
  refine cw_seq (cw_seq (cw_go rfl ?_))
  conv => whnf
  refine say_f (by decide) ?_
  refine cw_false rfl (cw_exit ?_)
  refine cw_seq (cw_go rfl ?_)
  conv => whnf
  exact cw_ret ⟨rfl, rfl⟩
theorem rfsame_fn (k v s : Int) {d : List UInt8} (hd : d.length = 32) (h : Heap) :
    Fx Tryz.prog 90 #[.agg (frC k v s d).toArray, .agg (frC k v s d).toArray] h fun u h' => u = .bool true ∧ ExtH h h' := by
  refine fn_of 66 Tryz.func90 rfl (by kernel_rfl) rfl (by simp) ?_
  refine cw_seq (cw_go rfl ?_)
  intro h1 n1
  conv => whnf
  have y1 : Blk h1 h.size (frC k v s d) 82 := n1.blk
  intro h2 n2
  conv => whnf
  have y2 : Blk h2 h1.size (frC k v s d) 82 := n2.blk
  have y12 := n2.ext.blk y1
  clear y1
  have e12 := n1.ext.trans n2.ext
  refine cw_seq (cw_go rfl ?_)
  conv => whnf
  refine ⟨_, y12.rd (o := 0) rfl, ?_⟩
  conv => whnf
  refine ⟨_, y2.rd (o := 0) rfl, ?_⟩
  conv => whnf
  refine say_t rfl ?_
  conv => whnf
  refine ⟨_, y12.rd (o := 1) rfl, ?_⟩
  conv => whnf
  refine ⟨_, y2.rd (o := 1) rfl, ?_⟩
  conv => whnf
  refine say_t rfl ?_
  conv => whnf
  refine ⟨_, y12.rd (o := 2) rfl, ?_⟩
  conv => whnf
  refine ⟨_, y2.rd (o := 2) rfl, ?_⟩
  conv => whnf
  refine say_t rfl ?_
  conv => whnf
  refine ⟨_, y12.rd (o := 3) rfl, ?_⟩
  conv => whnf
  refine ⟨_, y2.rd (o := 3) rfl, ?_⟩
  conv => whnf
  refine say_t rfl ?_
  conv => whnf
  refine ⟨_, by rw [List.length_map, hd]; rfl, frC_tool y12 hd, ?_⟩
  conv => whnf
  refine ⟨_, by rw [List.length_map, hd]; rfl, frC_tool y2 hd, ?_⟩
  conv => whnf
  refine ⟨.bool true, fun w => dig_self _ _ hd w, ?_⟩
  conv => whnf
  refine ⟨_, y12.rd (o := 36) (frC_at hd 0), ?_⟩
  conv => whnf
  refine ⟨_, y2.rd (o := 36) (frC_at hd 0), ?_⟩
  conv => whnf
  refine say_t rfl ?_
  conv => whnf
  refine ⟨_, rfl, frC_lim y12 hd, ?_⟩
  conv => whnf
  refine ⟨_, rfl, frC_lim y2 hd, ?_⟩
  conv => whnf
  refine ⟨.bool true, fun w => by kernel_rfl, ?_⟩
  conv => whnf
  conv => whnf
  refine ⟨_, y12.rd (o := 40) (frC_at hd 4), ?_⟩
  conv => whnf
  refine ⟨_, y2.rd (o := 40) (frC_at hd 4), ?_⟩
  conv => whnf
  refine ⟨_, rfl, _, rsame_nil h2, ?_⟩
  rintro _ h3 ⟨rfl, e3⟩
  replace e3 := e3.symm
  subst e3
  conv => whnf
  refine ⟨_, y12.rd (o := 41) (frC_at hd 5), ?_⟩
  conv => whnf
  refine ⟨_, y2.rd (o := 41) (frC_at hd 5), ?_⟩
  conv => whnf
  refine say_t rfl ?_
  exact cw_ret ⟨rfl, e12⟩
theorem ronly_fn (v s : Int) {d : List UInt8} (hd : d.length = 32) (h : Heap) :
    Fx Tryz.prog 91 #[.agg (frC 1 v s d).toArray] h fun u h' => u = .agg (frC 1 v s d).toArray ∧ ExtH h h' := by
  refine fn_of 56 Tryz.func91 rfl (by kernel_rfl) rfl (by simp) ?_
  refine cw_seq (cw_go rfl ?_)
  intro h1 n1
  conv => whnf
  have y1 : Blk h1 h.size (frC 1 v s d) 82 := n1.blk
  intro h2 n2
  conv => whnf
  have y2 : Blk h2 h1.size (frC 0 0 0 zd32) 82 := n2.blk
  have y12 := n2.ext.blk y1
  have z1 := n1.size
  have z2 := n2.size
  refine cw_seq (cw_go rfl ?_)
  conv => whnf
  refine ⟨_, y12.rd (o := 0) rfl, ?_⟩
  conv => whnf
  refine ⟨_, rfl, (frC 1 0 0 zd32).toArray, fun w => by kernel_rfl, ?_⟩
  conv => whnf
  intro h3 n3
  conv => whnf
  have y3 : Blk h3 h2.size (frC 0 0 0 zd32) 82 := n3.blk
  refine store_fr (k := 1) (v := 0) (s := 0) (d := zd32) y3 (by rfl) (by rfl) ?_
  intro h4 w4
  have z3 := n3.size
  have z4 := w4.size
  have x4 : ExtH h2 h4 := ⟨by omega, fun b hb => by rw [w4.block b (by omega), n3.block b hb]⟩
  have ya := x4.blk y12
  have yb := x4.blk y2
  have yc := w4.new
  conv => whnf
  refine cw_seq (cw_seq (cw_go rfl ?_))
  conv => whnf
  refine ⟨_, ya.rd (o := 0) rfl, ?_⟩
  refine cw_block ?_
  refine cw_seq (cw_go rfl ?_)
  conv => whnf
  refine say_t (by decide) ?_
  refine cw_true rfl ?_
  refine cw_keeps (by kernel_rfl) 11 (fun b => b ≠ h2.size ∧ b < h4.size) (.q 0 (.q 1 (.q 2 (.q 3 (.q 4 (.q 5 (.q 6 (.i1 7 (.q 8 (.i1 9 (.q 10 .leaf))))))))))) (by kernel_rfl) rfl ?_
  have kp : ∀ {h' : Heap}, ExtP (fun b => b ≠ h2.size ∧ b < h4.size) h4 h' → Blk h' h.size (frC 1 v s d) 82 := fun e => (e.block _ ⟨by omega, by omega⟩ (by omega)).trans ya
  conv => whnf
  refine ⟨_, fun h' e => rfl, ?_⟩
  conv => whnf
  refine ⟨.int .i64 v, fun h' e => ⟨_, (kp e).rd (o := 2) rfl, rfl⟩, ?_⟩
  conv => whnf
  refine ⟨_, fun h' e => rfl, ?_⟩
  conv => whnf
  refine ⟨.int .i64 s, fun h' e => ⟨_, (kp e).rd (o := 3) rfl, rfl⟩, ?_⟩
  conv => whnf
  refine ⟨_, fun h' e => rfl, ?_⟩
  conv => whnf
  refine ⟨.agg (d.map u8v).toArray, fun h' e => ⟨_, by rw [List.length_map, hd]; rfl, frC_tool (kp e) hd, rfl⟩, ?_⟩
  conv => whnf
  refine ⟨_, fun h' e => rfl, ?_⟩
  conv => whnf
  intro g1 e1
  conv => whnf
  have c1 := e1.blk yc
  refine ⟨_, _, c1, by show 2 < (frC 1 0 0 zd32).length; decide, ?_⟩
  intro g2 w2
  replace w2 := w2.cast (l' := frC 1 v 0 zd32) rfl
  have q2 := w2.size
  have q1 := e1.size
  refine ⟨⟨by omega, fun b hb hlt => w2.block b hb.1⟩, ?_⟩
  intro g3 e3
  conv => whnf
  refine ⟨_, fun h' e => rfl, ?_⟩
  conv => whnf
  intro g4 e4
  conv => whnf
  have c4 := e4.blk (e3.blk w2.new)
  refine ⟨_, _, c4, by show 3 < (frC 1 v 0 zd32).length; rw [frC_length rfl]; decide, ?_⟩
  intro g5 w5
  replace w5 := w5.cast (l' := frC 1 v s zd32) rfl
  have q3 := e3.size
  have q4 := e4.size
  have q5 := w5.size
  refine ⟨⟨by omega, fun b hb hlt => w5.block b hb.1⟩, ?_⟩
  intro g6 e6
  conv => whnf
  refine ⟨_, fun h' e => rfl, ?_⟩
  conv => whnf
  intro g7 e7
  conv => whnf
  have c7 := e7.blk (e6.blk w5.new)
  refine ⟨_, _, c7, ⟨by show 4 + (d.map u8v).length ≤ (frC 1 v s zd32).length; rw [frC_length rfl, List.length_map, hd]; decide, by show (d.map u8v).length = 32; rw [List.length_map, hd], fun x hx => one8 d x hx⟩, ?_⟩
  intro g8 w8
  replace w8 := w8.cast (l' := frC 1 v s d) (frC_tool_set rfl hd)
  have q6 := e6.size
  have q7 := e7.size
  have q8 := w8.size
  have bl : ∀ b, b < h2.size → g8[b]? = h4[b]? := fun b hb => by
    rw [w8.block b (by omega), e7.block b (by omega), e6.block b (by omega), w5.block b (by omega), e4.block b (by omega), e3.block b (by omega), w2.block b (by omega), e1.block b (by omega)]
  have yb8 : Blk g8 h1.size (frC 0 0 0 zd32) 82 := (bl _ (by omega)).trans yb
  refine cw_seq (cw_go rfl ?_)
  conv => whnf
  refine ⟨_, by rw [frC_length hd]; rfl, w8.new.all, ?_⟩
  conv => whnf
  refine store_fr (k := 1) (v := v) (s := s) (d := d) yb8 (by rfl) hd ?_
  intro g9 w9
  have q9 := w9.size
  exact cw_ret ⟨_, by rw [frC_length hd]; rfl, w9.new.all, rfl, ⟨by omega, fun b hb => by rw [w9.block b (by omega), bl b (by omega), x4.block b (by omega), n2.block b (by omega), n1.block b hb]⟩⟩
end Go.Proofs.YtgecapllodgdeaaGreatDoor
namespace Go.Proofs.YtgecapllodgdeaaGreatDoor
open Go Vm
set_option maxRecDepth 100000
set_option linter.unusedVariables false
set_option linter.unusedSimpArgs false
theorem rbody_fn (s : Nat) (hs : s ≤ 64) {d : List UInt8} (hd : d.length = 32) (h : Heap) :
    Fx Tryz.prog 62 #[.agg (frC 1 1 s d).toArray] h fun u h' => OB h' u (bodyS s d) ∧ ExtH h h' ∧ ∀ b, ob u b → h.size ≤ b := by
  refine fn_of 107 Tryz.func62 rfl (by kernel_rfl) rfl (by simp) ?_
  have u1 := uvar_10 (show 1 < 18446744073709551616 by decide)
  have us := uvar_10 (show s < 18446744073709551616 by omega)
  refine cw_seq (cw_go rfl ?_)
  intro h1 n1
  conv => whnf
  have y1 : Blk h1 h.size (frC 1 1 s d) 82 := n1.blk
  have x1 := n1.ext
  have z1 := n1.size
  refine cw_seq (cw_go rfl ?_)
  conv => whnf
  refine ⟨_, y1.rd (o := 0) rfl, ?_⟩
  conv => whnf
  refine say_w (u64_n 1 (by decide)) ?_
  conv => whnf
  refine ⟨_, rfl, _, rUint_fn 1 h1 (by decide), ?_⟩
  rintro v2 h2 ⟨o2, x2, f2⟩
  have y2 := x2.blk y1
  conv => whnf
  refine cw_seq (cw_seq (cw_go rfl ?_))
  conv => whnf
  refine ⟨_, y2.rd (o := 0) rfl, ?_⟩
  refine cw_block ?_
  refine cw_seq (cw_go rfl ?_)
  conv => whnf
  refine say_t (by decide) ?_
  refine cw_true rfl ?_
  refine cw_seq (cw_go rfl ?_)
  conv => whnf
  refine ⟨_, y2.rd (o := 2) rfl, ?_⟩
  conv => whnf
  refine say_w (u64_n 1 (by decide)) ?_
  conv => whnf
  refine ⟨_, rfl, _, rUint_fn 1 h2 (by decide), ?_⟩
  rintro v3 h3 ⟨o3, x3, f3⟩
  conv => whnf
  refine ⟨_, rfl, _, append_bytes (ty := 33) (OwnS.more o2 x3) (OB.r o3) (by omega), ?_⟩
  rintro v4 h4 ⟨o4, c4, f4⟩
  have x24 := ext_of_chg (x2.trans x3) c4 f2
  have y4 := x24.blk y1
  have z2 := x2.size
  have z3 := x3.size
  have z4 := x24.size
  have fv4 : ∀ b, ob v4 b → h1.size ≤ b := fun b hb => (f4 b hb).elim (f2 b) (fun e => by omega)
  conv => whnf
  refine cw_seq (cw_go rfl ?_)
  conv => whnf
  refine ⟨_, y4.rd (o := 3) rfl, ?_⟩
  conv => whnf
  refine say_w (u64_n s (by omega)) ?_
  conv => whnf
  refine ⟨_, rfl, _, rUint_fn s h4 (by omega), ?_⟩
  rintro v5 h5 ⟨o5, x5, f5⟩
  conv => whnf
  refine ⟨_, rfl, _, append_bytes (ty := 33) (OwnS.more o4 x5) (OB.r o5) (by simp only [List.length_append]; omega), ?_⟩
  rintro v6 h6 ⟨o6, c6, f6⟩
  have x46 := ext_of_chg (x24.trans x5) c6 fv4
  have y6 := x46.blk y1
  have z5 := x5.size
  have z6 := x46.size
  have fv6 : ∀ b, ob v6 b → h1.size ≤ b := fun b hb => (f6 b hb).elim (fv4 b) (fun e => by omega)
  obtain ⟨a6, b6, he6, _⟩ := Vm.Src.form (OB.r o6)
  conv => whnf
  refine cw_seq (cw_go rfl ?_)
  conv => whnf
  refine cw_block ?_
  refine cw_loop (S := Nat × Value) (fun i => [(1, .pointer (some ⟨h.size, 0, none⟩)), (3, i.2), (4, .int .i64 (i.1 : Int))])
    (fun i h' => i.1 ≤ 32 ∧ (∃ a c, i.2 = .slice a (uvar 1 ++ uvar 1 ++ uvar s ++ d.take i.1).length c) ∧ OB h' i.2 (uvar 1 ++ uvar 1 ++ uvar s ++ d.take i.1) ∧ ExtH h1 h' ∧ ∀ b, ob i.2 b → h1.size ≤ b) (fun i => 32 - i.1) (0, v6) ⟨rfl, rfl, rfl, trivial⟩
    ⟨by show 0 ≤ 32; decide, ⟨a6, b6, by simpa using he6⟩, by simpa using o6, x46, fv6⟩ ?_
  clear o6 he6 x46 fv6 y6
  rintro ⟨i, x⟩ h7 ⟨hi, ⟨xa, xc, hx⟩, o7, x7, f7⟩
  simp only at hi hx o7 f7
  subst hx
  have y7 := x7.blk y1
  refine cw_seq (cw_seq (cw_go rfl ?_))
  conv => whnf
  by_cases h32 : i < 32
  · refine say_t (by show (i : Int) < 32; omega) ?_
    refine cw_true rfl (cw_skip ?_)
    refine cw_seq (cw_block ?_)
    have hg : d[i]? = some (d.getD i 0) := by rw [List.getD_eq_getElem?_getD, List.getElem?_eq_getElem (by omega)]; rfl
    refine cw_go rfl ?_
    conv => whnf
    refine And.intro ⟨by show (0 : Int) ≤ (i : Int); omega, by show (i : Int) < 32; omega⟩ ?_
    conv => whnf
    refine ⟨u8v (d.getD i 0), by
      have := frC_tool y7 hd i (u8v (d.getD i 0)) (by rw [List.getElem?_map, hg]; rfl)
      rwa [show 4 + i = 4 + (((i, Value.slice xa (uvar 1 ++ uvar 1 ++ uvar s ++ d.take i).length xc).1 : Int)).toNat by show 4 + i = 4 + ((i : Int)).toNat; omega] at this, ?_⟩
    conv => whnf
    refine ⟨_, rfl, #[u8v (d.getD i 0)], 5, fun w => by kernel_rfl, ?_⟩
    conv => whnf
    intro h8 n8
    conv => whnf
    have r8 : RB h8 (.slice (some ⟨h7.size, 0, none⟩) 1 1) [d.getD i 0] := RB.of_newed n8 rfl rfl (by show 1 ≤ maxLen; decide)
    refine ⟨_, rfl, _, append_bytes (ty := 33) (OwnS.more o7 n8.ext) r8 (by simp only [List.length_append, List.length_take, List.length_cons, List.length_nil]; omega), ?_⟩
    rintro u h9 ⟨o9, c9, f9⟩
    have e9 : uvar 1 ++ uvar 1 ++ uvar s ++ d.take i ++ [d.getD i 0] = uvar 1 ++ uvar 1 ++ uvar s ++ d.take (i + 1) := by
      rw [List.take_add_one, hg, List.append_assoc]; rfl
    rw [e9] at o9
    obtain ⟨ua, uc, hue, _⟩ := Vm.Src.form (OB.r o9)
    have z7 := x7.size
    have z8 := n8.size
    refine cw_go rfl ?_
    conv => whnf
    refine say_i (by show -9223372036854775808 ≤ (i : Int) + 1 ∧ (i : Int) + 1 < _; omega) ?_
    exact ⟨(i + 1, u), ⟨rfl, rfl, rfl, trivial⟩, ⟨by show i + 1 ≤ 32; omega, ⟨_, _, hue⟩, o9, ext_of_chg (x7.trans n8.ext) c9 f7, fun b hb => (f9 b hb).elim (f7 b) (fun e => by omega)⟩, by show 32 - (i + 1) < 32 - i; omega⟩
  · refine say_f (by show ¬ (i : Int) < 32; omega) ?_
    refine cw_false rfl (cw_exit ?_)
    have hi2 : i = 32 := by omega
    subst hi2
    rw [show d.take 32 = d by rw [← hd]; exact List.take_length] at o7 f7
    refine cw_seq (cw_go rfl ?_)
    conv => whnf
    refine cw_ret ⟨?_, x1.trans x7, fun b hb => ?_⟩
    · rw [show d.take 32 = d by rw [← hd]; exact List.take_length]
      exact o7
    · rw [show d.take 32 = d by rw [← hd]; exact List.take_length] at hb
      have := f7 b hb; omega
theorem rcheck_fn (s : Nat) (hs : 1 ≤ s ∧ s ≤ 64) {d : List UInt8} (hd : d.length = 32) (h : Heap) :
    Fx Tryz.prog 61 #[.agg (frC 1 1 s d).toArray] h fun u h' => u = .int .i64 0 ∧ ExtH h h' := by
  refine fn_of 121 Tryz.func61 rfl (by kernel_rfl) rfl (by simp) ?_
  refine cw_seq (cw_go rfl ?_)
  intro h1 n1
  conv => whnf
  have y1 : Blk h1 h.size (frC 1 1 s d) 82 := n1.blk
  have x1 := n1.ext
  refine cw_seq (cw_dgo (by kernel_rfl) 21 (List.range 21) (by kernel_rfl) rfl ?_)
  conv => whnf
  refine ⟨_, y1.rd (o := 0) rfl, ?_⟩
  conv => whnf
  refine say_f (by decide) ?_
  conv => whnf
  refine ⟨_, y1.rd (o := 0) rfl, ?_⟩
  conv => whnf
  refine say_f (by decide) ?_
  conv => whnf
  refine ⟨_, by rw [frC_length hd]; rfl, y1.all, ?_⟩
  conv => whnf
  refine ⟨_, by rw [frC_length hd]; rfl, y1.all, ?_⟩
  conv => whnf
  refine ⟨_, rfl, _, (fun g e => ronly_fn 1 s hd g), ?_⟩
  conv => whnf
  refine ⟨_, rfl, _, (fun g e => rfsame_fn 1 1 s hd g), ?_⟩
  conv => whnf
  refine ⟨_, y1.rd (o := 40) (frC_at hd 4), ?_⟩
  conv => whnf
  refine say_f (by decide) ?_
  conv => whnf
  intro h2 e2
  have y2 := e2.blk y1
  conv => whnf
  refine cw_seq (cw_go rfl ?_)
  conv => whnf
  refine ⟨_, y2.rd (o := 37) (frC_at hd 1), ?_⟩
  conv => whnf
  refine say_f (by decide) ?_
  conv => whnf
  refine ⟨_, y2.rd (o := 38) (frC_at hd 2), ?_⟩
  conv => whnf
  refine say_f (by decide) ?_
  conv => whnf
  refine ⟨_, y2.rd (o := 39) (frC_at hd 3), ?_⟩
  conv => whnf
  refine say_f (by decide) ?_
  conv => whnf
  refine cw_seq (cw_go rfl ?_)
  repeat ((conv => whnf); first | refine ⟨_, Blk.rd ‹Blk _ _ _ _› rfl, ?_⟩ | refine ⟨_, rd_up ‹ExtH _ _› (Blk.rd ‹Blk _ _ _ _› rfl), ?_⟩ | refine And.intro ⟨by omega, by omega⟩ ?_ | refine say_i (by omega) ?_ | refine say_u8 (by omega) ?_ | refine say_u64 (by omega) ?_ | refine say_len ?_ | refine say_at ⟨by omega, by omega⟩ ?_ | refine say_to (by omega) (by omega) ?_ | refine say_from (by omega) (by omega) ?_ | refine say_t (by omega) ?_ | refine say_f (by omega) ?_)
  try (conv => whnf)
  refine cw_seq (cw_go rfl ?_)
  repeat ((conv => whnf); first | refine ⟨_, Blk.rd ‹Blk _ _ _ _› rfl, ?_⟩ | refine ⟨_, rd_up ‹ExtH _ _› (Blk.rd ‹Blk _ _ _ _› rfl), ?_⟩ | refine And.intro ⟨by omega, by omega⟩ ?_ | refine say_i (by omega) ?_ | refine say_u8 (by omega) ?_ | refine say_u64 (by omega) ?_ | refine say_len ?_ | refine say_at ⟨by omega, by omega⟩ ?_ | refine say_to (by omega) (by omega) ?_ | refine say_from (by omega) (by omega) ?_ | refine say_t (by omega) ?_ | refine say_f (by omega) ?_)
  try (conv => whnf)
  refine cw_seq (cw_seq (cw_go rfl ?_))
  conv => whnf
  refine cw_block ?_
  refine cw_loop (S := Nat) (fun i => [(1, .pointer (some ⟨h.size, 0, none⟩)), (3, .bool false), (4, .int .i64 0)]) (fun i h' => h2 = h') (fun i => i) 0 ⟨rfl, rfl, rfl, trivial⟩ rfl ?_
  rintro i _ rfl
  refine cw_seq (cw_seq (cw_go rfl ?_))
  conv => whnf
  refine ⟨_, y2.rd (o := 40) (frC_at hd 4), ?_⟩
  conv => whnf
  refine say_f (by decide) ?_
  conv => whnf
  refine cw_false rfl (cw_exit ?_)
  refine cw_seq (cw_seq (cw_go rfl ?_))
  conv => whnf
  refine cw_false rfl (cw_skip ?_)
  refine cw_seq (cw_seq (cw_go rfl ?_))
  conv => whnf
  refine ⟨_, y2.rd (o := 41) (frC_at hd 5), ?_⟩
  conv => whnf
  refine ⟨0, rfl, ?_⟩
  conv => whnf
  refine say_f (by decide) ?_
  conv => whnf
  refine ⟨_, by rw [frC_length hd]; rfl, y2.all, ?_⟩
  conv => whnf
  refine ⟨_, rfl, _, rbody_fn s hs.2 hd h2, ?_⟩
  rintro u h11 ⟨o11, x11, f11⟩
  obtain ⟨ua, uc, hue, _⟩ := Vm.Src.form (OB.r o11)
  subst hue
  have hbl := bodyS_len hs.2 hd
  conv => whnf
  refine say_f (by omega) ?_
  conv => whnf
  refine cw_false rfl (cw_skip ?_)
  refine cw_seq (cw_go rfl ?_)
  conv => whnf
  exact cw_ret ⟨rfl, (x1.trans e2).trans x11⟩
theorem rencode_fn (s : Nat) (hs : 1 ≤ s ∧ s ≤ 64) {d : List UInt8} (hd : d.length = 32) (h : Heap) :
    Fx Tryz.prog 38 #[.agg (frC 1 1 s d).toArray] h fun u h' => ∃ v, u = .tuple #[v, .int .i64 0] ∧ OB h' v (encS s d) ∧ ExtH h h' ∧ ∀ b, ob v b → h.size ≤ b := by
  refine fn_of 21 Tryz.func38 rfl (by kernel_rfl) rfl (by simp) ?_
  have hbl := bodyS_len hs.2 hd
  refine cw_seq (cw_go rfl ?_)
  intro h1 n1
  conv => whnf
  have y1 : Blk h1 h.size (frC 1 1 s d) 82 := n1.blk
  have x1 := n1.ext
  refine cw_seq (cw_go rfl ?_)
  conv => whnf
  refine ⟨_, by rw [frC_length hd]; rfl, y1.all, ?_⟩
  conv => whnf
  refine ⟨_, rfl, _, rcheck_fn s hs hd h1, ?_⟩
  rintro _ h2 ⟨rfl, x2⟩
  have y2 := x2.blk y1
  conv => whnf
  refine cw_seq (cw_seq (cw_go rfl ?_))
  conv => whnf
  refine say_f (by decide) ?_
  conv => whnf
  refine cw_false rfl (cw_skip ?_)
  refine cw_seq (cw_go rfl ?_)
  conv => whnf
  refine ⟨_, by rw [frC_length hd]; rfl, y2.all, ?_⟩
  conv => whnf
  refine ⟨_, rfl, _, rbody_fn s hs.2 hd h2, ?_⟩
  rintro u h3 ⟨o3, x3, f3⟩
  obtain ⟨ua, uc, hue, _⟩ := Vm.Src.form (OB.r o3)
  subst hue
  conv => whnf
  refine cw_seq (cw_go rfl ?_)
  conv => whnf
  refine say_w (u64_n _ (by omega)) ?_
  conv => whnf
  refine ⟨_, rfl, _, rUint_fn (bodyS s d).length h3 (by omega), ?_⟩
  rintro w h4 ⟨o4, x4, f4⟩
  have ul := uvar_10 (show (bodyS s d).length < 18446744073709551616 by omega)
  conv => whnf
  refine ⟨_, rfl, _, append_bytes (ty := 33) o4 (OB.r (OwnS.more o3 x4)) (by omega), ?_⟩
  rintro x h5 ⟨o5, c5, f5⟩
  have x5 := ext_of_chg x4 c5 f4
  conv => whnf
  refine cw_seq (cw_go rfl ?_)
  conv => whnf
  refine ⟨_, rfl, _, rseal_fn (OB.r o5) (by rw [List.length_append]; omega), ?_⟩
  rintro z h6 ⟨o6, x6, f6⟩
  have z5 := ((x1.trans x2).trans (x3.trans x5)).size
  exact cw_ret ⟨z, rfl, o6, ((x1.trans x2).trans (x3.trans x5)).trans x6, fun b hb => by have := f6 b hb; omega⟩
end Go.Proofs.YtgecapllodgdeaaGreatDoor
