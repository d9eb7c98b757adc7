/-
  Hello frames: package frame's Hello, of, Check, body, Encode; the document's.
    Hello frames: what is laid down: package frame's body, Check, Encode.
    Hello frames: package frame's Same, Check, Encode.
-/
import Derived.Test.YthigegabdbkhiaaGreatDoorJ10
namespace Go.Proofs.YthigegabdbkhiaaGreatDoor
open Go Vm
set_option maxRecDepth 100000
set_option linter.unusedVariables false
set_option linter.unusedSimpArgs false
theorem cons_of {α : Type} {l : List α} {n : Nat} (h : l.length = n + 1) : ∃ a t, l = a :: t ∧ t.length = n := by
  cases l with
  | nil => simp at h
  | cons a t => exact ⟨a, t, rfl, by simpa using h⟩
theorem explode32 {α : Type} {l : List α} (h : l.length = 32) : ∃ a0 a1 a2 a3 a4 a5 a6 a7 a8 a9 a10 a11 a12 a13 a14 a15 a16 a17 a18 a19 a20 a21 a22 a23 a24 a25 a26 a27 a28 a29 a30 a31, l = [a0, a1, a2, a3, a4, a5, a6, a7, a8, a9, a10, a11, a12, a13, a14, a15, a16, a17, a18, a19, a20, a21, a22, a23, a24, a25, a26, a27, a28, a29, a30, a31] := by
  obtain ⟨a0, l1, rfl, e1⟩ := cons_of h
  obtain ⟨a1, l2, rfl, e2⟩ := cons_of e1
  obtain ⟨a2, l3, rfl, e3⟩ := cons_of e2
  obtain ⟨a3, l4, rfl, e4⟩ := cons_of e3
  obtain ⟨a4, l5, rfl, e5⟩ := cons_of e4
  obtain ⟨a5, l6, rfl, e6⟩ := cons_of e5
  obtain ⟨a6, l7, rfl, e7⟩ := cons_of e6
  obtain ⟨a7, l8, rfl, e8⟩ := cons_of e7
  obtain ⟨a8, l9, rfl, e9⟩ := cons_of e8
  obtain ⟨a9, l10, rfl, e10⟩ := cons_of e9
  obtain ⟨a10, l11, rfl, e11⟩ := cons_of e10
  obtain ⟨a11, l12, rfl, e12⟩ := cons_of e11
  obtain ⟨a12, l13, rfl, e13⟩ := cons_of e12
  obtain ⟨a13, l14, rfl, e14⟩ := cons_of e13
  obtain ⟨a14, l15, rfl, e15⟩ := cons_of e14
  obtain ⟨a15, l16, rfl, e16⟩ := cons_of e15
  obtain ⟨a16, l17, rfl, e17⟩ := cons_of e16
  obtain ⟨a17, l18, rfl, e18⟩ := cons_of e17
  obtain ⟨a18, l19, rfl, e19⟩ := cons_of e18
  obtain ⟨a19, l20, rfl, e20⟩ := cons_of e19
  obtain ⟨a20, l21, rfl, e21⟩ := cons_of e20
  obtain ⟨a21, l22, rfl, e22⟩ := cons_of e21
  obtain ⟨a22, l23, rfl, e23⟩ := cons_of e22
  obtain ⟨a23, l24, rfl, e24⟩ := cons_of e23
  obtain ⟨a24, l25, rfl, e25⟩ := cons_of e24
  obtain ⟨a25, l26, rfl, e26⟩ := cons_of e25
  obtain ⟨a26, l27, rfl, e27⟩ := cons_of e26
  obtain ⟨a27, l28, rfl, e28⟩ := cons_of e27
  obtain ⟨a28, l29, rfl, e29⟩ := cons_of e28
  obtain ⟨a29, l30, rfl, e30⟩ := cons_of e29
  obtain ⟨a30, l31, rfl, e31⟩ := cons_of e30
  obtain ⟨a31, l32, rfl, e32⟩ := cons_of e31
  obtain rfl := List.eq_nil_of_length_eq_zero e32
  exact ⟨a0, a1, a2, a3, a4, a5, a6, a7, a8, a9, a10, a11, a12, a13, a14, a15, a16, a17, a18, a19, a20, a21, a22, a23, a24, a25, a26, a27, a28, a29, a30, a31, rfl⟩
def ftl : List Value := [.int .i64 0, .int .i64 0, .int .i64 0, .int .i64 0, .slice none 0 0, .string ⟨#[]⟩]
/-- a frame of which Kind, Version, Slots and Tool are told, and nothing else -/
def frC (k v s : Int) (d : List UInt8) : List Value := .int .i64 k :: .int .u64 0 :: .int .i64 v :: .int .i64 s :: (d.map u8v ++ ftl)
def zd32 : List UInt8 := List.replicate 32 0
theorem frC_length {k v s : Int} {d : List UInt8} (h : d.length = 32) : (frC k v s d).length = 42 := by simp [frC, ftl, h]
theorem frC_at {k v s : Int} {d : List UInt8} (h : d.length = 32) (j : Nat) : (frC k v s d)[36 + j]? = ftl[j]? := by
  rw [show 36 + j = (32 + j) + 1 + 1 + 1 + 1 by omega]
  show (d.map u8v ++ ftl)[32 + j]? = _
  rw [List.getElem?_append_right (by simp [h])]
  congr 1
  simp [h]
theorem frC_one {k v s : Int} {d : List UInt8} : ∀ x ∈ frC k v s d, x.oneCell' = true := by
  intro x hx
  simp only [frC, ftl, List.mem_cons, List.mem_append, List.mem_map, List.not_mem_nil, or_false] at hx
  rcases hx with rfl | rfl | rfl | rfl | ⟨b, _, rfl⟩ | rfl | rfl | rfl | rfl | rfl | rfl <;> rfl
theorem frC_tool {h : Heap} {b : Nat} {k v s : Int} {d : List UInt8} {t : TypeId} (y : Blk h b (frC k v s d) t) (hd : d.length = 32) : rdN h b 4 (d.map u8v) := y.rdN 4 _ (by simp [frC, hd])
theorem frC_lim {h : Heap} {b : Nat} {k v s : Int} {d : List UInt8} {t : TypeId} (y : Blk h b (frC k v s d) t) (hd : d.length = 32) : rdN h b 37 [.int .i64 0, .int .i64 0, .int .i64 0] := fun j u hj => by
  refine y.rd (o := 37 + j) ?_
  rw [show 37 + j = 36 + (1 + j) by omega, frC_at hd]
  match j, hj with
  | 0, hj => exact hj
  | 1, hj => exact hj
  | 2, hj => exact hj
theorem frC_tool_set {k v s : Int} {d e : List UInt8} (hd : d.length = 32) (he : e.length = 32) : splice (frC k v s d) 4 (e.map u8v) = frC k v s e := by
  simp [splice, frC, hd, he]
theorem build_4 (s : Int) (d : List UInt8) (hd : d.length = 32) (w : World) : (Instr.build 79 #[(0, .int .i64 1), (2, .int .i64 1), (3, .int .i64 s), (4, .agg (d.map u8v).toArray)]).run Tryz.prog w = .ok (.agg (frC 1 1 s d).toArray) w := by
  obtain ⟨a0, a1, a2, a3, a4, a5, a6, a7, a8, a9, a10, a11, a12, a13, a14, a15, a16, a17, a18, a19, a20, a21, a22, a23, a24, a25, a26, a27, a28, a29, a30, a31, rfl⟩ := explode32 hd
  kernel_rfl
theorem build_3 (v s : Int) (d : List UInt8) (hd : d.length = 32) (w : World) : (Instr.build 79 #[(2, .int .i64 v), (3, .int .i64 s), (4, .agg (d.map u8v).toArray)]).run Tryz.prog w = .ok (.agg (frC 0 v s d).toArray) w := by
  obtain ⟨a0, a1, a2, a3, a4, a5, a6, a7, a8, a9, a10, a11, a12, a13, a14, a15, a16, a17, a18, a19, a20, a21, a22, a23, a24, a25, a26, a27, a28, a29, a30, a31, rfl⟩ := explode32 hd
  kernel_rfl
theorem store_fr {h : Heap} {b : Nat} {l0 : List Value} {k v s : Int} {d : List UInt8} {K : Heap → Prop} (hb : Blk h b l0 79) (h0 : l0.length = 42) (hd : d.length = 32) (H : ∀ h', Wrote h h' b (frC k v s d) 79 → K h') :
    ∃ l ty, Blk h b l ty ∧ (0 + (frC k v s d).toArray.size ≤ l.length ∧ (frC k v s d).toArray.size = 42 ∧ ∀ x ∈ (frC k v s d).toArray.toList, x.oneCell' = true) ∧ ∀ h', Wrote h h' b (splice l 0 (frC k v s d).toArray.toList) ty → K h' :=
  ⟨_, _, hb, ⟨by simp [frC_length hd, h0], by simp [frC_length hd], frC_one⟩, fun h' w => H h' (w.cast (by simp [splice, h0, frC_length hd]))⟩
theorem Hello_fn (s : Int) {d : List UInt8} (hd : d.length = 32) (h : Heap) : Fx Tryz.prog 30 #[.int .i64 s, .agg (d.map u8v).toArray] h fun u h' => u = .agg (frC 1 1 s d).toArray ∧ ExtH h h' := by
  refine fn_of 8 Tryz.func30 rfl (by kernel_rfl) rfl (by simp) ?_
  refine cw_seq (cw_go rfl ?_)
  intro h1 n1
  conv => whnf
  have y1 : Blk h1 h.size (d.map u8v) 74 := n1.blk
  intro h2 n2
  conv => whnf
  have y2 : Blk h2 h1.size (frC 0 0 0 zd32) 79 := n2.blk
  have y12 := n2.ext.blk y1
  have z1 := n1.size
  have z2 := n2.size
  refine cw_seq (cw_go rfl ?_)
  conv => whnf
  refine ⟨_, by rw [List.length_map, hd]; rfl, y12.all, ?_⟩
  conv => whnf
  refine ⟨_, rfl, (frC 1 1 s d).toArray, build_4 s d hd, ?_⟩
  conv => whnf
  refine store_fr (k := 1) (v := 1) (s := s) (d := d) y2 (by rfl) hd ?_
  intro h3 w3
  have z3 := w3.size
  exact cw_ret ⟨_, by rw [frC_length hd]; rfl, w3.new.all, rfl, ⟨by omega, fun b hb => by rw [w3.block b (by omega), n2.block b (by omega), n1.block b hb]⟩⟩
def kf (i : Nat) : Value := .func (.func i) #[] #[]
def helloK : List Value := [kf 182, kf 183, kf 184, kf 185]
theorem hello_fn (h : Heap) : Fx Tryz.prog 140 #[] h fun u h' => u = .agg helloK.toArray ∧ ExtH h h' := by
  refine fn_of 2 Tryz.func140 rfl (by kernel_rfl) rfl (by simp) ?_
  refine cw_seq (cw_go rfl ?_)
  intro h1 n1
  conv => whnf
  have y1 := n1.blk
  have z1 := n1.size
  refine cw_seq (cw_go rfl ?_)
  conv => whnf
  refine ⟨_, rfl, helloK.toArray, fun w => by kernel_rfl, ?_⟩
  conv => whnf
  conv => whnf
  refine ⟨_, _, y1, ⟨by show 4 ≤ 4; decide, rfl, by simp [helloK, kf, Value.oneCell']⟩, ?_⟩
  intro h2 w2
  replace w2 := w2.cast (l' := helloK) rfl
  have z2 := w2.size
  exact cw_ret ⟨_, rfl, w2.new.all, rfl, ⟨by omega, fun b hb => by rw [w2.block b (by omega), n1.block b hb]⟩⟩
theorem fof_fn (h : Heap) : Fx Tryz.prog 101 #[.int .i64 1] h fun u h' => u = .tuple #[.agg helloK.toArray, .bool true] ∧ ExtH h h' := by
  refine fn_of 21 Tryz.func101 rfl (by kernel_rfl) rfl (by simp) ?_
  refine cw_seq (cw_go rfl ?_)
  intro h1 n1
  conv => whnf
  have y1 := n1.blk
  have z1 := n1.size
  refine cw_seq (cw_go rfl ?_)
  conv => whnf
  refine ⟨_, rfl, #[kf 140, kf 141, kf 142, kf 143, kf 144, kf 145], 275, fun w => by kernel_rfl, ?_⟩
  conv => whnf
  intro h2 n2
  have y2 := n2.blk
  have y12 := n2.ext.blk y1
  have z2 := n2.size
  conv => whnf
  refine cw_seq (cw_seq (cw_go rfl ?_))
  conv => whnf
  refine say_f (by decide) ?_
  conv => whnf
  refine say_f (by decide) ?_
  conv => whnf
  refine cw_false rfl (cw_skip ?_)
  refine cw_seq (cw_go rfl ?_)
  conv => whnf
  refine say_i (by decide) ?_
  conv => whnf
  refine And.intro ⟨by decide, by decide⟩ ?_
  conv => whnf
  refine ⟨_, y2.rd (o := 0) rfl, ?_⟩
  conv => whnf
  refine ⟨_, rfl, _, hello_fn h2, ?_⟩
  rintro _ h3 ⟨rfl, x3⟩
  conv => whnf
  refine ⟨_, _, x3.blk y12, ⟨by show 4 ≤ 4; decide, rfl, by simp [helloK, kf, Value.oneCell']⟩, ?_⟩
  intro h4 w4
  replace w4 := w4.cast (l' := helloK) rfl
  have z3 := x3.size
  have z4 := w4.size
  exact cw_ret ⟨_, rfl, w4.new.all, rfl, ⟨by omega, fun b hb => by rw [w4.block b (by omega), x3.block b (by omega), n2.block b (by omega), n1.block b hb]⟩⟩
theorem only_fn (v s : Int) {d : List UInt8} (hd : d.length = 32) (h : Heap) : Fx Tryz.prog 184 #[.agg (frC 1 v s d).toArray] h fun u h' => u = .agg (frC 0 v s d).toArray ∧ ExtH h h' := by
  refine fn_of 10 Tryz.func184 rfl (by kernel_rfl) rfl (by simp) ?_
  refine cw_seq (cw_go rfl ?_)
  intro h1 n1
  conv => whnf
  have y1 : Blk h1 h.size (frC 1 v s d) 79 := n1.blk
  intro h2 n2
  conv => whnf
  have y2 : Blk h2 h1.size (frC 0 0 0 zd32) 79 := n2.blk
  have y12 := n2.ext.blk y1
  have z1 := n1.size
  have z2 := n2.size
  refine cw_seq (cw_go rfl ?_)
  conv => whnf
  refine ⟨_, y12.rd (o := 2) rfl, ?_⟩
  conv => whnf
  refine ⟨_, y12.rd (o := 3) rfl, ?_⟩
  conv => whnf
  refine ⟨_, by rw [List.length_map, hd]; rfl, frC_tool y12 hd, ?_⟩
  conv => whnf
  refine ⟨_, rfl, (frC 0 v s d).toArray, build_3 v s d hd, ?_⟩
  conv => whnf
  refine store_fr (k := 0) (v := v) (s := s) (d := d) y2 (by rfl) hd ?_
  intro h3 w3
  have z3 := w3.size
  exact cw_ret ⟨_, by rw [frC_length hd]; rfl, w3.new.all, rfl, ⟨by omega, fun b hb => by rw [w3.block b (by omega), n2.block b (by omega), n1.block b hb]⟩⟩
theorem hmay_fn (s : Int) (hs : 1 ≤ s ∧ s ≤ 64) {d : List UInt8} (hd : d.length = 32) (h : Heap) : Fx Tryz.prog 185 #[.agg (frC 1 1 s d).toArray] h fun u h' => u = .bool true ∧ ExtH h h' := by
  refine fn_of 16 Tryz.func185 rfl (by kernel_rfl) rfl (by simp) ?_
  refine cw_seq (cw_go rfl ?_)
  intro h1 n1
  conv => whnf
  have y1 : Blk h1 h.size (frC 1 1 s d) 79 := n1.blk
  refine cw_seq (cw_go rfl ?_)
  repeat ((conv => whnf); first | refine ⟨_, Blk.rd ‹Blk _ _ _ _› rfl, ?_⟩ | refine ⟨_, rd_up ‹ExtH _ _› (Blk.rd ‹Blk _ _ _ _› rfl), ?_⟩ | refine And.intro ⟨by omega, by omega⟩ ?_ | refine say_i (by omega) ?_ | refine say_u8 (by omega) ?_ | refine say_u64 (by omega) ?_ | refine say_len ?_ | refine say_at ⟨by omega, by omega⟩ ?_ | refine say_to (by omega) (by omega) ?_ | refine say_from (by omega) (by omega) ?_ | refine say_t (by omega) ?_ | refine say_f (by omega) ?_)
  try (conv => whnf)
  exact cw_ret ⟨rfl, n1.ext⟩
end Go.Proofs.YthigegabdbkhiaaGreatDoor
namespace Go.Proofs.YthigegabdbkhiaaGreatDoor
open Go Vm
set_option maxRecDepth 100000
set_option linter.unusedVariables false
set_option linter.unusedSimpArgs false
theorem u64_n (s : Nat) (hs : s < 18446744073709551616) : IntKind.u64.wrap (s : Int) = (s : Int) := by rw [IntKind.wrap_u64]; omega
theorem rTool {h : Heap} {b : Nat} {d : List UInt8} {o : Nat} (r : rdN h b o (d.map u8v)) (hd : d.length = 32) : RB h (.slice (some ⟨b, o, none⟩) 32 32) d :=
  ⟨by simp, .inr ⟨⟨b, o, none⟩, 32, by rw [hd], by omega, by decide, rdA_plain.2 r⟩⟩
theorem lay_fn {h : Heap} {v : Value} {l : List UInt8} (s : Nat) (hs : s ≤ 64) {d : List UInt8} (hd : d.length = 32) (r : RB h v l) (hl : l.length ≤ 1000) :
    Fx Tryz.prog 182 #[v, .agg (frC 1 1 s d).toArray] h fun u h' => OB h' u (l ++ uvar 1 ++ uvar s ++ d) ∧ ExtH h h' ∧ ∀ b, ob u b → h.size ≤ b := by
  refine fn_of 18 Tryz.func182 rfl (by kernel_rfl) rfl (by simp) ?_
  obtain ⟨va, vc, hve, _⟩ := Vm.Src.form r
  subst hve
  have u1 := uvar_10 (show 1 < 18446744073709551616 by decide)
  have us := uvar_10 (show s < 18446744073709551616 by omega)
  refine cw_seq (cw_go rfl ?_)
  intro h1 n1
  conv => whnf
  have y1 : Blk h1 h.size (frC 1 1 s d) 79 := n1.blk
  have x1 := n1.ext
  have z1 := n1.size
  refine cw_seq (cw_dgi (by kernel_rfl) 9 (fun i => i == 4 || i == 8) [0,1,2,3,5,6,7,4,8] (by kernel_rfl) rfl ?_)
  conv => whnf
  refine ⟨_, y1.rd (o := 2) rfl, ?_⟩
  conv => whnf
  refine say_w (u64_n 1 (by decide)) ?_
  conv => whnf
  refine ⟨_, y1.rd (o := 3) rfl, ?_⟩
  conv => whnf
  refine say_w (u64_n s (by omega)) ?_
  conv => whnf
  intro g1 e1
  conv => whnf
  refine ⟨_, rfl, _, putUint_fn (r.more (x1.trans e1)) (by omega) (by decide), ?_⟩
  rintro w1 g2 ⟨o2, q2, f2⟩
  refine ⟨q2.toU _, ?_⟩
  intro g3 e3
  conv => whnf
  intro g4 e4
  conv => whnf
  refine ⟨_, rfl, _, putUint_fn (OB.r (OwnS.more o2 (e3.trans e4))) (by rw [List.length_append]; omega) (by omega), ?_⟩
  rintro w2 g5 ⟨o5, q5, f5⟩
  refine ⟨q5.toU _, ?_⟩
  intro g6 e6
  conv => whnf
  intro g7 e7
  conv => whnf
  have x7 := (((e1.trans q2).trans (e3.trans e4)).trans q5).trans (e6.trans e7)
  have y7 := x7.blk y1
  have o7 := OwnS.more o5 (e6.trans e7)
  have z7 := ((e1.trans q2).trans (e3.trans e4)).size
  refine cw_seq (cw_go rfl ?_)
  conv => whnf
  refine ⟨⟨by decide, by decide, by decide⟩, ⟨h.size, 4, none⟩, rfl, ?_⟩
  conv => whnf
  refine ⟨_, rfl, _, append_bytes (ty := 33) o7 (rTool (frC_tool y7 hd) hd) (by simp only [List.length_append]; omega), ?_⟩
  rintro u h8 ⟨o8, c8, f8⟩
  have fv : ∀ b, ob w2 b → h.size ≤ b := fun b hb => by have := f5 b hb; omega
  have z8 := x7.size
  exact cw_ret ⟨o8, ext_of_chg (x1.trans x7) c8 fv, fun b hb => (f8 b hb).elim (fv b) (fun e => by omega)⟩
def bodyS (s : Nat) (d : List UInt8) : List UInt8 := uvar 1 ++ uvar 1 ++ uvar s ++ d
theorem bodyS_len {s : Nat} (hs : s ≤ 64) {d : List UInt8} (hd : d.length = 32) : (bodyS s d).length ≤ 62 := by
  have u1 := uvar_10 (show 1 < 18446744073709551616 by decide)
  have us := uvar_10 (show s < 18446744073709551616 by omega)
  unfold bodyS
  simp only [List.length_append]
  omega
theorem body_fn (s : Nat) (hs : s ≤ 64) {d : List UInt8} (hd : d.length = 32) (h : Heap) :
    Fx Tryz.prog 69 #[.agg (frC 1 1 s d).toArray] h fun u h' => OB h' u (bodyS s d) ∧ ExtH h h' ∧ ∀ b, ob u b → h.size ≤ b := by
  refine fn_of 19 Tryz.func69 rfl (by kernel_rfl) rfl (by simp) ?_
  have u1 := uvar_10 (show 1 < 18446744073709551616 by decide)
  refine cw_seq (cw_go rfl ?_)
  intro h1 n1
  conv => whnf
  have y1 : Blk h1 h.size (frC 1 1 s d) 79 := n1.blk
  have x1 := n1.ext
  have z1 := n1.size
  refine cw_seq (cw_go rfl ?_)
  conv => whnf
  refine ⟨_, y1.rd (o := 0) rfl, ?_⟩
  conv => whnf
  refine ⟨_, rfl, _, fof_fn h1, ?_⟩
  rintro _ h2 ⟨rfl, x2⟩
  intro h3 n3
  conv => whnf
  have y3 := n3.blk
  refine ⟨_, _, y3, ⟨by show 4 ≤ 4; decide, rfl, by simp [helloK, kf, Value.oneCell']⟩, ?_⟩
  intro h4 w4
  replace w4 := w4.cast (l' := helloK) rfl
  have z2 := x2.size
  have z3 := n3.size
  have z4 := w4.size
  have x4 : ExtH h1 h4 := ⟨by omega, fun b hb => by rw [w4.block b (by omega), n3.block b (by omega), x2.block b hb]⟩
  have y4 := x4.blk y1
  have k4 : Blk h4 h2.size helloK 233 := w4.new
  have x04 := x1.trans x4
  conv => whnf
  refine cw_seq (cw_dgi (by kernel_rfl) 8 (fun i => i == 5 || i == 7) [0,1,2,3,4,6,5,7] (by kernel_rfl) rfl ?_)
  conv => whnf
  refine ⟨_, k4.rd (o := 0) rfl, ?_⟩
  conv => whnf
  refine ⟨_, y4.rd (o := 0) rfl, ?_⟩
  conv => whnf
  refine say_w (u64_n 1 (by decide)) ?_
  conv => whnf
  refine ⟨_, by rw [frC_length hd]; rfl, y4.all, ?_⟩
  conv => whnf
  intro g1 e1
  conv => whnf
  refine ⟨_, rfl, _, putUint_fn (l := []) (OB.r (OB.nil g1)) (by simp) (by decide), ?_⟩
  rintro w1 g2 ⟨o2, q2, f2⟩
  refine ⟨q2.toU _, ?_⟩
  intro g3 e3
  conv => whnf
  intro g4 e4
  conv => whnf
  refine ⟨_, rfl, _, lay_fn s hs hd (OB.r (OwnS.more o2 (e3.trans e4))) (by simp only [List.nil_append]; omega), ?_⟩
  rintro w2 g5 ⟨o5, q5, f5⟩
  refine ⟨q5.toU _, ?_⟩
  intro g6 e6
  conv => whnf
  intro g7 e7
  conv => whnf
  have xx := (e1.trans q2).trans (e3.trans e4)
  have z5 := x04.size
  have zx := xx.size
  exact cw_ret ⟨OwnS.more o5 (e6.trans e7), (x04.trans (xx.trans q5)).trans (e6.trans e7), fun b hb => by have := f5 b hb; omega⟩
end Go.Proofs.YthigegabdbkhiaaGreatDoor
namespace Go.Proofs.YthigegabdbkhiaaGreatDoor
open Go Vm
set_option maxRecDepth 100000
set_option linter.unusedVariables false
set_option linter.unusedSimpArgs false
theorem equal_nil (h : Heap) : Fx Tryz.prog 146 #[.slice none 0 0, .slice none 0 0] h fun u h' => u = .bool true ∧ h' = h := by
  refine fn_of 26 Tryz.func146 rfl (by kernel_rfl) rfl (by simp) ?_
  refine cw_seq (cw_go rfl ?_)
  conv => whnf
  refine cw_seq (cw_seq (cw_go rfl ?_))
  conv => whnf
  refine say_f (by decide) ?_
  conv => whnf
  refine cw_false rfl (cw_skip ?_)
  refine cw_seq (cw_seq (cw_go rfl ?_))
  conv => whnf
  refine cw_block ?_
  refine cw_loop (S := Unit) (fun _ => [(12, .int .i64 0), (13, .int .i64 0)]) (fun _ h' => h' = h) (fun _ => 0) () ⟨rfl, rfl, trivial⟩ rfl ?_
  rintro _ h2 e2
  subst e2
  refine cw_seq (cw_go rfl ?_)
  conv => whnf
  refine say_f (by decide) ?_
  refine cw_seq (cw_false rfl (cw_exit ?_))
  refine cw_seq (cw_go rfl ?_)
  conv => whnf
  exact cw_ret ⟨rfl, rfl⟩
theorem dig_self (xo yo : Operand) {d : List UInt8} (hd : d.length = 32) (w : World) :
    (do eqGuard .eql 74 xo yo (.agg (d.map u8v).toArray) (.agg (d.map u8v).toArray); binOp .eql 74 (.agg (d.map u8v).toArray) (.agg (d.map u8v).toArray) : Sem Value).run Tryz.prog w = .ok (.bool true) w := by
  rw [dig_eq xo yo d d hd hd w, decide_eq_true rfl]
theorem fsame_fn (k v s : Int) {d : List UInt8} (hd : d.length = 32) (h : Heap) :
    Fx Tryz.prog 102 #[.agg (frC k v s d).toArray, .agg (frC k v s d).toArray] h fun u h' => u = .bool true ∧ ExtH h h' := by
  refine fn_of 66 Tryz.func102 rfl (by kernel_rfl) rfl (by simp) ?_
  refine cw_seq (cw_go rfl ?_)
  intro h1 n1
  conv => whnf
  have y1 : Blk h1 h.size (frC k v s d) 79 := n1.blk
  intro h2 n2
  conv => whnf
  have y2 : Blk h2 h1.size (frC k v s d) 79 := n2.blk
  have y12 := n2.ext.blk y1
  clear y1
  have e12 := n1.ext.trans n2.ext
  refine cw_seq (cw_go rfl ?_)
  conv => whnf
  refine ⟨_, y12.rd (o := 0) rfl, ?_⟩
  conv => whnf
  refine ⟨_, y2.rd (o := 0) rfl, ?_⟩
  conv => whnf
  refine say_t rfl ?_
  conv => whnf
  refine ⟨_, y12.rd (o := 1) rfl, ?_⟩
  conv => whnf
  refine ⟨_, y2.rd (o := 1) rfl, ?_⟩
  conv => whnf
  refine say_t rfl ?_
  conv => whnf
  refine ⟨_, y12.rd (o := 2) rfl, ?_⟩
  conv => whnf
  refine ⟨_, y2.rd (o := 2) rfl, ?_⟩
  conv => whnf
  refine say_t rfl ?_
  conv => whnf
  refine ⟨_, y12.rd (o := 3) rfl, ?_⟩
  conv => whnf
  refine ⟨_, y2.rd (o := 3) rfl, ?_⟩
  conv => whnf
  refine say_t rfl ?_
  conv => whnf
  refine ⟨_, by rw [List.length_map, hd]; rfl, frC_tool y12 hd, ?_⟩
  conv => whnf
  refine ⟨_, by rw [List.length_map, hd]; rfl, frC_tool y2 hd, ?_⟩
  conv => whnf
  refine ⟨.bool true, fun w => dig_self _ _ hd w, ?_⟩
  conv => whnf
  refine ⟨_, y12.rd (o := 36) (frC_at hd 0), ?_⟩
  conv => whnf
  refine ⟨_, y2.rd (o := 36) (frC_at hd 0), ?_⟩
  conv => whnf
  refine say_t rfl ?_
  conv => whnf
  refine ⟨_, rfl, frC_lim y12 hd, ?_⟩
  conv => whnf
  refine ⟨_, rfl, frC_lim y2 hd, ?_⟩
  conv => whnf
  refine ⟨.bool true, fun w => by kernel_rfl, ?_⟩
  conv => whnf
  conv => whnf
  refine ⟨_, y12.rd (o := 40) (frC_at hd 4), ?_⟩
  conv => whnf
  refine ⟨_, y2.rd (o := 40) (frC_at hd 4), ?_⟩
  conv => whnf
  refine ⟨_, rfl, _, equal_nil h2, ?_⟩
  rintro _ h3 ⟨rfl, e3⟩
  replace e3 := e3.symm
  subst e3
  conv => whnf
  refine ⟨_, y12.rd (o := 41) (frC_at hd 5), ?_⟩
  conv => whnf
  refine ⟨_, y2.rd (o := 41) (frC_at hd 5), ?_⟩
  conv => whnf
  refine say_t rfl ?_
  exact cw_ret ⟨rfl, e12⟩
theorem check_fn (s : Nat) (hs : 1 ≤ s ∧ s ≤ 64) {d : List UInt8} (hd : d.length = 32) (h : Heap) :
    Fx Tryz.prog 68 #[.agg (frC 1 1 s d).toArray] h fun u h' => u = .int .i64 0 ∧ ExtH h h' := by
  refine fn_of 42 Tryz.func68 rfl (by kernel_rfl) rfl (by simp) ?_
  refine cw_seq (cw_go rfl ?_)
  intro h1 n1
  conv => whnf
  have y1 : Blk h1 h.size (frC 1 1 s d) 79 := n1.blk
  have x1 := n1.ext
  have z1 := n1.size
  refine cw_seq (cw_go rfl ?_)
  conv => whnf
  refine ⟨_, y1.rd (o := 0) rfl, ?_⟩
  conv => whnf
  refine ⟨_, rfl, _, fof_fn h1, ?_⟩
  rintro _ h2 ⟨rfl, x2⟩
  intro h3 n3
  conv => whnf
  have y3 := n3.blk
  refine ⟨_, _, y3, ⟨by show 4 ≤ 4; decide, rfl, by simp [helloK, kf, Value.oneCell']⟩, ?_⟩
  intro h4 w4
  replace w4 := w4.cast (l' := helloK) rfl
  have z2 := x2.size
  have z3 := n3.size
  have z4 := w4.size
  have x4 : ExtH h1 h4 := ⟨by omega, fun b hb => by rw [w4.block b (by omega), n3.block b (by omega), x2.block b hb]⟩
  have y4 := x4.blk y1
  have k4 : Blk h4 h2.size helloK 233 := w4.new
  have x04 := x1.trans x4
  clear y3 n3 w4 y1
  conv => whnf
  refine cw_seq (cw_seq (cw_go rfl ?_))
  conv => whnf
  refine cw_false rfl (cw_skip ?_)
  refine cw_seq (cw_go rfl ?_)
  conv => whnf
  refine ⟨_, k4.rd (o := 2) rfl, ?_⟩
  conv => whnf
  refine ⟨_, by rw [frC_length hd]; rfl, y4.all, ?_⟩
  conv => whnf
  refine ⟨_, rfl, _, only_fn 1 s hd h4, ?_⟩
  rintro _ h5 ⟨rfl, x5⟩
  intro h6 n6
  conv => whnf
  have y6 : Blk h6 h5.size (frC 0 0 0 zd32) 79 := n6.blk
  refine store_fr (k := 0) (v := 1) (s := s) (d := d) y6 (by rfl) hd ?_
  intro h7 w7
  have z5 := x5.size
  have z6 := n6.size
  have z7 := w7.size
  have l4 := x4.size
  have lf := y4.lt
  have x7 : ExtH h4 h7 := ⟨by omega, fun b hb => by rw [w7.block b (by omega), n6.block b (by omega), x5.block b hb]⟩
  have y7 := x7.blk y4
  have k7 := x7.blk k4
  have o7 := w7.new
  clear y6 n6 w7 y4 k4
  conv => whnf
  refine cw_seq (cw_go rfl ?_)
  conv => whnf
  refine ⟨_, y7.rd (o := 0) rfl, ?_⟩
  conv => whnf
  refine ⟨_, _, o7, by show 0 < (frC 0 1 s d).length; rw [frC_length hd]; decide, ?_⟩
  intro h8 w8
  replace w8 := w8.cast (l' := frC 1 1 s d) rfl
  have z8 := w8.size
  have x8 : ExtH h4 h8 := ⟨by omega, fun b hb => by rw [w8.block b (by omega), x7.block b hb]⟩
  have o8 := w8.new
  have y8 := w8.blk y7 (by omega)
  have k8 := w8.blk k7 (by have := x2.size; omega)
  clear y7 k7 o7 w8
  conv => whnf
  refine cw_seq (cw_seq (cw_go rfl ?_))
  conv => whnf
  refine ⟨_, by rw [frC_length hd]; rfl, o8.all, ?_⟩
  conv => whnf
  refine ⟨_, by rw [frC_length hd]; rfl, y8.all, ?_⟩
  conv => whnf
  refine ⟨_, rfl, _, fsame_fn 1 1 s hd h8, ?_⟩
  rintro _ h9 ⟨rfl, x9⟩
  conv => whnf
  refine ⟨_, (x9.blk k8).rd (o := 3) rfl, ?_⟩
  conv => whnf
  refine ⟨_, by rw [frC_length hd]; rfl, (x9.blk y8).all, ?_⟩
  conv => whnf
  refine ⟨_, rfl, _, hmay_fn s ⟨by omega, by omega⟩ hd h9, ?_⟩
  rintro _ h10 ⟨rfl, x10⟩
  have y10 := x10.blk (x9.blk y8)
  conv => whnf
  refine cw_false rfl (cw_skip ?_)
  refine cw_seq (cw_seq (cw_go rfl ?_))
  conv => whnf
  refine ⟨_, y10.rd (o := 41) (frC_at hd 5), ?_⟩
  conv => whnf
  refine ⟨0, rfl, ?_⟩
  conv => whnf
  refine say_f (by decide) ?_
  conv => whnf
  refine ⟨_, by rw [frC_length hd]; rfl, y10.all, ?_⟩
  conv => whnf
  refine ⟨_, rfl, _, body_fn s hs.2 hd h10, ?_⟩
  rintro u h11 ⟨o11, x11, f11⟩
  obtain ⟨ua, uc, hue, _⟩ := Vm.Src.form (OB.r o11)
  subst hue
  have hbl := bodyS_len hs.2 hd
  conv => whnf
  refine say_f (by omega) ?_
  conv => whnf
  refine cw_false rfl (cw_skip ?_)
  refine cw_seq (cw_go rfl ?_)
  conv => whnf
  exact cw_ret ⟨rfl, ((x04.trans x8).trans x9).trans (x10.trans x11)⟩
def encS (s : Nat) (d : List UInt8) : List UInt8 := Crc.sealB (uvar (bodyS s d).length ++ bodyS s d)
theorem encode_fn (s : Nat) (hs : 1 ≤ s ∧ s ≤ 64) {d : List UInt8} (hd : d.length = 32) (h : Heap) :
    Fx Tryz.prog 46 #[.agg (frC 1 1 s d).toArray] h fun u h' => ∃ v, u = .tuple #[v, .int .i64 0] ∧ OB h' v (encS s d) ∧ ExtH h h' ∧ ∀ b, ob v b → h.size ≤ b := by
  refine fn_of 20 Tryz.func46 rfl (by kernel_rfl) rfl (by simp) ?_
  have hbl := bodyS_len hs.2 hd
  refine cw_seq (cw_go rfl ?_)
  intro h1 n1
  conv => whnf
  have y1 : Blk h1 h.size (frC 1 1 s d) 79 := n1.blk
  have x1 := n1.ext
  refine cw_seq (cw_seq (cw_go rfl ?_))
  conv => whnf
  refine ⟨_, by rw [frC_length hd]; rfl, y1.all, ?_⟩
  conv => whnf
  refine ⟨_, rfl, _, check_fn s hs hd h1, ?_⟩
  rintro _ h2 ⟨rfl, x2⟩
  have y2 := x2.blk y1
  conv => whnf
  refine cw_seq (cw_go rfl ?_)
  conv => whnf
  refine say_f (by decide) ?_
  conv => whnf
  refine cw_false rfl (cw_skip ?_)
  refine cw_seq (cw_go rfl ?_)
  conv => whnf
  refine ⟨_, by rw [frC_length hd]; rfl, y2.all, ?_⟩
  conv => whnf
  refine ⟨_, rfl, _, body_fn s hs.2 hd h2, ?_⟩
  rintro u h3 ⟨o3, x3, f3⟩
  obtain ⟨ua, uc, hue, _⟩ := Vm.Src.form (OB.r o3)
  subst hue
  conv => whnf
  refine cw_seq (cw_go rfl ?_)
  conv => whnf
  refine say_w (u64_n _ (by omega)) ?_
  conv => whnf
  refine ⟨_, rfl, _, putUint_fn (l := []) (OB.r (OB.nil h3)) (by simp) (by omega), ?_⟩
  rintro w h4 ⟨o4, x4, f4⟩
  have ul := uvar_10 (show (bodyS s d).length < 18446744073709551616 by omega)
  conv => whnf
  refine ⟨_, rfl, _, append_bytes (ty := 33) o4 (OB.r (OwnS.more o3 x4)) (by rw [List.nil_append]; omega), ?_⟩
  rintro x h5 ⟨o5, c5, f5⟩
  have x5 := ext_of_chg x4 c5 f4
  conv => whnf
  refine ⟨_, rfl, _, seal_fn (OB.r o5) (by rw [List.nil_append, List.length_append]; omega), ?_⟩
  rintro z h6 ⟨o6, x6, f6⟩
  have z5 := ((x1.trans x2).trans (x3.trans x5)).size
  exact cw_ret ⟨z, rfl, o6, ((x1.trans x2).trans (x3.trans x5)).trans x6, fun b hb => by have := f6 b hb; omega⟩
end Go.Proofs.YthigegabdbkhiaaGreatDoor
