/-
  Memos, compilers, decoders that were just made; tool.New.
  tool.New and the worker's say, Takes, Out, Take.
-/
import Derived.Test.YtgecapllodgdeaaGreatDoorTfREnc
namespace Go.Proofs.YtgecapllodgdeaaGreatDoor
open Go Vm
set_option maxRecDepth 100000
set_option linter.unusedVariables false
set_option linter.unusedSimpArgs false
def pp (p : Nat) : Value := .pointer (some ⟨p, 0, none⟩)
theorem lru_scanned (n : Int) (hn : 1 ≤ n ∧ n ≤ 4096) (h : Heap) : Fx Tryz.prog 54 #[.int .i64 n] h fun u h' => (∃ p, u = .tuple #[pp p, .int .i64 0]) ∧ ExtH h h' := by
  refine fn_of 14 Tryz.func54 rfl (by kernel_rfl) rfl (by simp) ?_
  refine cw_seq (cw_go rfl ?_)
  conv => whnf
  refine cw_seq (cw_seq (cw_go rfl ?_))
  repeat ((conv => whnf); first | refine ⟨_, Blk.rd ‹Blk _ _ _ _› rfl, ?_⟩ | refine ⟨_, rd_up ‹ExtH _ _› (Blk.rd ‹Blk _ _ _ _› rfl), ?_⟩ | refine And.intro ⟨by omega, by omega⟩ ?_ | refine say_i (by omega) ?_ | refine say_u8 (by omega) ?_ | refine say_u64 (by omega) ?_ | refine say_len ?_ | refine say_at ⟨by omega, by omega⟩ ?_ | refine say_to (by omega) (by omega) ?_ | refine say_from (by omega) (by omega) ?_ | refine say_t (by omega) ?_ | refine say_f (by omega) ?_)
  try (conv => whnf)
  refine cw_false rfl (cw_skip ?_)
  refine cw_seq (cw_go rfl ?_)
  conv => whnf
  intro h1 n1
  conv => whnf
  refine ⟨_, rfl, #[.int .i64 n, .map (some h.size), .pointer none, .pointer none, .int .i64 0, .int .i64 0, .int .i64 0], fun w => by kernel_rfl, ?_⟩
  conv => whnf
  conv => whnf
  intro h2 n2
  exact cw_ret ⟨⟨_, rfl⟩, n1.ext.trans n2.ext⟩
theorem lru_parsed (n : Int) (hn : 1 ≤ n ∧ n ≤ 4096) (h : Heap) : Fx Tryz.prog 55 #[.int .i64 n] h fun u h' => (∃ p, u = .tuple #[pp p, .int .i64 0]) ∧ ExtH h h' := by
  refine fn_of 14 Tryz.func55 rfl (by kernel_rfl) rfl (by simp) ?_
  refine cw_seq (cw_go rfl ?_)
  conv => whnf
  refine cw_seq (cw_seq (cw_go rfl ?_))
  repeat ((conv => whnf); first | refine ⟨_, Blk.rd ‹Blk _ _ _ _› rfl, ?_⟩ | refine ⟨_, rd_up ‹ExtH _ _› (Blk.rd ‹Blk _ _ _ _› rfl), ?_⟩ | refine And.intro ⟨by omega, by omega⟩ ?_ | refine say_i (by omega) ?_ | refine say_u8 (by omega) ?_ | refine say_u64 (by omega) ?_ | refine say_len ?_ | refine say_at ⟨by omega, by omega⟩ ?_ | refine say_to (by omega) (by omega) ?_ | refine say_from (by omega) (by omega) ?_ | refine say_t (by omega) ?_ | refine say_f (by omega) ?_)
  try (conv => whnf)
  refine cw_false rfl (cw_skip ?_)
  refine cw_seq (cw_go rfl ?_)
  conv => whnf
  intro h1 n1
  conv => whnf
  refine ⟨_, rfl, #[.int .i64 n, .map (some h.size), .pointer none, .pointer none, .int .i64 0, .int .i64 0, .int .i64 0], fun w => by kernel_rfl, ?_⟩
  conv => whnf
  conv => whnf
  intro h2 n2
  exact cw_ret ⟨⟨_, rfl⟩, n1.ext.trans n2.ext⟩
theorem lru_checked (n : Int) (hn : 1 ≤ n ∧ n ≤ 4096) (h : Heap) : Fx Tryz.prog 56 #[.int .i64 n] h fun u h' => (∃ p, u = .tuple #[pp p, .int .i64 0]) ∧ ExtH h h' := by
  refine fn_of 14 Tryz.func56 rfl (by kernel_rfl) rfl (by simp) ?_
  refine cw_seq (cw_go rfl ?_)
  conv => whnf
  refine cw_seq (cw_seq (cw_go rfl ?_))
  repeat ((conv => whnf); first | refine ⟨_, Blk.rd ‹Blk _ _ _ _› rfl, ?_⟩ | refine ⟨_, rd_up ‹ExtH _ _› (Blk.rd ‹Blk _ _ _ _› rfl), ?_⟩ | refine And.intro ⟨by omega, by omega⟩ ?_ | refine say_i (by omega) ?_ | refine say_u8 (by omega) ?_ | refine say_u64 (by omega) ?_ | refine say_len ?_ | refine say_at ⟨by omega, by omega⟩ ?_ | refine say_to (by omega) (by omega) ?_ | refine say_from (by omega) (by omega) ?_ | refine say_t (by omega) ?_ | refine say_f (by omega) ?_)
  try (conv => whnf)
  refine cw_false rfl (cw_skip ?_)
  refine cw_seq (cw_go rfl ?_)
  conv => whnf
  intro h1 n1
  conv => whnf
  refine ⟨_, rfl, #[.int .i64 n, .map (some h.size), .pointer none, .pointer none, .int .i64 0, .int .i64 0, .int .i64 0], fun w => by kernel_rfl, ?_⟩
  conv => whnf
  conv => whnf
  intro h2 n2
  exact cw_ret ⟨⟨_, rfl⟩, n1.ext.trans n2.ext⟩
theorem lru_made (n : Int) (hn : 1 ≤ n ∧ n ≤ 4096) (h : Heap) : Fx Tryz.prog 57 #[.int .i64 n] h fun u h' => (∃ p, u = .tuple #[pp p, .int .i64 0]) ∧ ExtH h h' := by
  refine fn_of 14 Tryz.func57 rfl (by kernel_rfl) rfl (by simp) ?_
  refine cw_seq (cw_go rfl ?_)
  conv => whnf
  refine cw_seq (cw_seq (cw_go rfl ?_))
  repeat ((conv => whnf); first | refine ⟨_, Blk.rd ‹Blk _ _ _ _› rfl, ?_⟩ | refine ⟨_, rd_up ‹ExtH _ _› (Blk.rd ‹Blk _ _ _ _› rfl), ?_⟩ | refine And.intro ⟨by omega, by omega⟩ ?_ | refine say_i (by omega) ?_ | refine say_u8 (by omega) ?_ | refine say_u64 (by omega) ?_ | refine say_len ?_ | refine say_at ⟨by omega, by omega⟩ ?_ | refine say_to (by omega) (by omega) ?_ | refine say_from (by omega) (by omega) ?_ | refine say_t (by omega) ?_ | refine say_f (by omega) ?_)
  try (conv => whnf)
  refine cw_false rfl (cw_skip ?_)
  refine cw_seq (cw_go rfl ?_)
  conv => whnf
  intro h1 n1
  conv => whnf
  refine ⟨_, rfl, #[.int .i64 n, .map (some h.size), .pointer none, .pointer none, .int .i64 0, .int .i64 0, .int .i64 0], fun w => by kernel_rfl, ?_⟩
  conv => whnf
  conv => whnf
  intro h2 n2
  exact cw_ret ⟨⟨_, rfl⟩, n1.ext.trans n2.ext⟩
theorem ifresh_fn (n : Int) (hn : 1 ≤ n ∧ n ≤ 4096) (h : Heap) : Fx Tryz.prog 36 #[.int .i64 n] h fun u h' => (∃ a b c d, u = .agg #[pp a, pp b, pp c, pp d]) ∧ ExtH h h' := by
  refine fn_of 29 Tryz.func36 rfl (by kernel_rfl) rfl (by simp) ?_
  refine cw_seq (cw_go rfl ?_)
  intro h1 n1
  conv => whnf
  have y1 := n1.blk
  refine cw_seq (cw_go rfl ?_)
  intro h2 n2
  conv => whnf
  have y2 := n2.blk
  have y12 := n2.ext.blk y1
  have z1 := n1.size
  have z2 := n2.size
  have x2 := n1.ext.trans n2.ext
  clear y1
  refine cw_seq (cw_go rfl ?_)
  conv => whnf
  refine ⟨_, rfl, _, lru_scanned n hn h2, ?_⟩
  rintro _ h3 ⟨⟨a, rfl⟩, x3⟩
  conv => whnf
  refine ⟨_, _, x3.blk y2, by show 0 < 4; decide, ?_⟩
  intro h4 w4
  replace w4 := w4.cast (l' := [pp a, .pointer none, .pointer none, .pointer none]) rfl
  have z3 := x3.size
  have z4 := w4.size
  have x4 : ExtH h h4 := ⟨by omega, fun b hb => by rw [w4.block b (by omega), x3.block b (by omega), x2.block b hb]⟩
  have ya4 := w4.blk (x3.blk y12) (by omega)
  conv => whnf
  refine cw_seq (cw_go rfl ?_)
  conv => whnf
  refine ⟨_, rfl, _, lru_parsed n hn h4, ?_⟩
  rintro _ h5 ⟨⟨b, rfl⟩, x5⟩
  conv => whnf
  refine ⟨_, _, x5.blk w4.new, by show 1 < 4; decide, ?_⟩
  intro h6 w6
  replace w6 := w6.cast (l' := [pp a, pp b, .pointer none, .pointer none]) rfl
  have z5 := x5.size
  have z6 := w6.size
  have x6 : ExtH h h6 := ⟨by omega, fun b hb => by rw [w6.block b (by omega), x5.block b (by omega), x4.block b hb]⟩
  have ya6 := w6.blk (x5.blk ya4) (by omega)
  conv => whnf
  refine cw_seq (cw_go rfl ?_)
  conv => whnf
  refine ⟨_, rfl, _, lru_checked n hn h6, ?_⟩
  rintro _ h7 ⟨⟨c, rfl⟩, x7⟩
  conv => whnf
  refine ⟨_, _, x7.blk w6.new, by show 2 < 4; decide, ?_⟩
  intro h8 w8
  replace w8 := w8.cast (l' := [pp a, pp b, pp c, .pointer none]) rfl
  have z7 := x7.size
  have z8 := w8.size
  have x8 : ExtH h h8 := ⟨by omega, fun b hb => by rw [w8.block b (by omega), x7.block b (by omega), x6.block b hb]⟩
  have ya8 := w8.blk (x7.blk ya6) (by omega)
  conv => whnf
  refine cw_seq (cw_go rfl ?_)
  conv => whnf
  refine ⟨_, rfl, _, lru_made n hn h8, ?_⟩
  rintro _ h9 ⟨⟨d, rfl⟩, x9⟩
  conv => whnf
  refine ⟨_, _, x9.blk w8.new, by show 3 < 4; decide, ?_⟩
  intro h10 w10
  replace w10 := w10.cast (l' := [pp a, pp b, pp c, pp d]) rfl
  have z9 := x9.size
  have z10 := w10.size
  have x10 : ExtH h h10 := ⟨by omega, fun b hb => by rw [w10.block b (by omega), x9.block b (by omega), x8.block b hb]⟩
  have ya10 := w10.blk (x9.blk ya8) (by omega)
  conv => whnf
  refine cw_seq (cw_go rfl ?_)
  conv => whnf
  refine ⟨_, rfl, w10.new.all, ?_⟩
  conv => whnf
  refine ⟨_, _, ya10, ⟨by show 4 ≤ 4; decide, rfl, by simp [pp, Value.oneCell']⟩, ?_⟩
  intro h11 w11
  replace w11 := w11.cast (l' := [pp a, pp b, pp c, pp d]) rfl
  have z11 := w11.size
  exact cw_ret ⟨_, rfl, w11.new.all, ⟨a, b, c, d, rfl⟩, ⟨by omega, fun b hb => by rw [w11.block b (by omega), x10.block b hb]⟩⟩
theorem inew_fn (s n : Int) (hs : 1 ≤ s ∧ s ≤ 64) (hn : 1 ≤ n ∧ n ≤ 4096) (h : Heap) : Fx Tryz.prog 17 #[.int .i64 s, .int .i64 n] h fun u h' => (∃ p, u = .tuple #[pp p, .int .i64 0]) ∧ ExtH h h' := by
  refine fn_of 26 Tryz.func17 rfl (by kernel_rfl) rfl (by simp) ?_
  refine cw_seq (cw_go rfl ?_)
  conv => whnf
  refine cw_seq (cw_seq (cw_go rfl ?_))
  repeat ((conv => whnf); first | refine ⟨_, Blk.rd ‹Blk _ _ _ _› rfl, ?_⟩ | refine ⟨_, rd_up ‹ExtH _ _› (Blk.rd ‹Blk _ _ _ _› rfl), ?_⟩ | refine And.intro ⟨by omega, by omega⟩ ?_ | refine say_i (by omega) ?_ | refine say_u8 (by omega) ?_ | refine say_u64 (by omega) ?_ | refine say_len ?_ | refine say_at ⟨by omega, by omega⟩ ?_ | refine say_to (by omega) (by omega) ?_ | refine say_from (by omega) (by omega) ?_ | refine say_t (by omega) ?_ | refine say_f (by omega) ?_)
  try (conv => whnf)
  refine cw_false rfl (cw_skip ?_)
  refine cw_seq (cw_go rfl ?_)
  conv => whnf
  refine ⟨_, rfl, _, ifresh_fn n hn h, ?_⟩
  rintro _ h1 ⟨⟨a, b, c, d, rfl⟩, x1⟩
  conv => whnf
  refine ⟨_, rfl, #[pp a, pp b, pp c, pp d, .int .i64 s, .int .i64 n, .slice none 0 0], fun w => by kernel_rfl, ?_⟩
  conv => whnf
  conv => whnf
  intro h2 n2
  exact cw_ret ⟨⟨_, rfl⟩, x1.trans n2.ext⟩
theorem snew_fn (h : Heap) : Fx Tryz.prog 18 #[.int .i64 2097152] h fun u h' => (∃ p, u = .tuple #[pp p, .int .i64 0]) ∧ ExtH h h' := by
  refine fn_of 14 Tryz.func18 rfl (by kernel_rfl) rfl (by simp) ?_
  refine cw_seq (cw_go rfl ?_)
  conv => whnf
  refine cw_seq (cw_seq (cw_go rfl ?_))
  repeat ((conv => whnf); first | refine ⟨_, Blk.rd ‹Blk _ _ _ _› rfl, ?_⟩ | refine ⟨_, rd_up ‹ExtH _ _› (Blk.rd ‹Blk _ _ _ _› rfl), ?_⟩ | refine And.intro ⟨by omega, by omega⟩ ?_ | refine say_i (by omega) ?_ | refine say_u8 (by omega) ?_ | refine say_u64 (by omega) ?_ | refine say_len ?_ | refine say_at ⟨by omega, by omega⟩ ?_ | refine say_to (by omega) (by omega) ?_ | refine say_from (by omega) (by omega) ?_ | refine say_t (by omega) ?_ | refine say_f (by omega) ?_)
  try (conv => whnf)
  refine cw_false rfl (cw_skip ?_)
  refine cw_seq (cw_go rfl ?_)
  conv => whnf
  refine ⟨_, rfl, #[.int .i64 2097152, .int .i64 0, .slice none 0 0, .int .i64 0, .int .i64 0, .int .i64 0, .int .i64 0], fun w => by kernel_rfl, ?_⟩
  conv => whnf
  conv => whnf
  refine ⟨_, rfl, #[.int .i64 2097152, .int .i64 0, .slice none 0 0, .int .i64 0, .int .i64 0, .int .i64 0, .int .i64 0], fun w => by kernel_rfl, ?_⟩
  conv => whnf
  conv => whnf
  intro h1 n1
  exact cw_ret ⟨⟨_, rfl⟩, n1.ext⟩
end Go.Proofs.YtgecapllodgdeaaGreatDoor
namespace Go.Proofs.YtgecapllodgdeaaGreatDoor
open Go Vm
set_option maxRecDepth 100000
set_option linter.unusedVariables false
set_option linter.unusedSimpArgs false
def wC (c : Nat) (t : Tl) (d : Nat) (v : Value) : List Value := [pp c, .int .i64 t.s, .int .i64 t.m, .int .i64 t.r, pp d, .slice none 0 0, .int .i64 0, .int .i64 0, v, .bool false]
/-- the worker at p, which says l -/
structure Wrk (h : Heap) (p c d : Nat) (t : Tl) (v : Value) (l : List UInt8) : Prop where
  blk : Blk h p (wC c t d v) 76
  out : OB h v l
theorem Wrk.more {h h' : Heap} {p c d : Nat} {t : Tl} {v : Value} {l : List UInt8} (W : Wrk h p c d t v l) (e : ExtH h h') : Wrk h' p c d t v l := ⟨e.blk W.blk, OwnS.more W.out e⟩
theorem made_fn {h : Heap} {p c d : Nat} {t : Tl} {v : Value} {l : List UInt8} (W : Wrk h p c d t v l) : Fx Tryz.prog 46 #[pp p] h fun u h' => u = .bool true ∧ h' = h := by
  refine fn_of 12 Tryz.func46 rfl (by kernel_rfl) rfl (by simp) ?_
  refine cw_seq (cw_go rfl ?_)
  conv => whnf
  refine cw_seq (cw_go rfl ?_)
  conv => whnf
  refine ⟨.bool true, fun w => by kernel_rfl, ?_⟩
  conv => whnf
  conv => whnf
  refine ⟨_, W.blk.rd (o := 4) rfl, ?_⟩
  conv => whnf
  refine ⟨.bool true, fun w => by kernel_rfl, ?_⟩
  conv => whnf
  conv => whnf
  exact cw_ret ⟨rfl, rfl⟩
theorem say_fn {h : Heap} {p c d : Nat} {t : Tl} {v : Value} {l : List UInt8} (W : Wrk h p c d t v l) (hl : l.length ≤ 1000) (s : Nat) (hs : 1 ≤ s ∧ s ≤ 64) {g : List UInt8} (hg : g.length = 32) :
    Fx Tryz.prog 19 #[pp p, .agg (frC 1 1 s g).toArray] h fun _ h' => ∃ v', Wrk h' p c d t v' (l ++ encS s g) ∧ Chg (fun b => b = p ∨ ob v b) h h' ∧ ∀ b, ob v' b → ob v b ∨ h.size ≤ b := by
  refine fn_of 20 Tryz.func19 rfl (by kernel_rfl) rfl (by simp) ?_
  have hbl := bodyS_len hs.2 hg
  have hel : (encS s g).length ≤ 1000 := by
    have ul := uvar_10 (show (bodyS s g).length < 18446744073709551616 by omega)
    unfold encS Crc.sealB Crc.bytes4
    simp only [List.length_append, List.length_cons, List.length_nil]
    omega
  refine cw_seq (cw_go rfl ?_)
  intro h1 n1
  conv => whnf
  have y1 : Blk h1 h.size (frC 1 1 s g) 82 := n1.blk
  have z1 := n1.size
  refine cw_seq (cw_go rfl ?_)
  conv => whnf
  refine ⟨_, by rw [frC_length hg]; rfl, y1.all, ?_⟩
  conv => whnf
  refine ⟨_, rfl, _, encode_fn s hs hg h1, ?_⟩
  rintro _ h2 ⟨e, rfl, o2, x2, f2⟩
  obtain ⟨ea, ec, hee, _⟩ := Vm.Src.form (OB.r o2)
  subst hee
  have W2 := W.more (n1.ext.trans x2)
  have z2 := x2.size
  conv => whnf
  refine cw_go rfl ?_
  conv => whnf
  refine ⟨_, W2.blk.rd (o := 8) rfl, ?_⟩
  conv => whnf
  refine ⟨_, rfl, _, append_bytes (ty := 33) W2.out (OB.r o2) (by omega), ?_⟩
  rintro u h3 ⟨o3, c3, f3⟩
  obtain ⟨ua, uc, hue, _⟩ := Vm.Src.form (OB.r o3)
  subst hue
  have hne : ¬ ob v p := OwnS.ne W2.out W2.blk (by decide)
  have b3 := c3.blk W2.blk hne
  conv => whnf
  refine ⟨_, _, b3, by show 8 < 10; decide, ?_⟩
  intro h4 w4
  replace w4 := w4.cast (l' := wC c t d (.slice ua (l ++ encS s g).length uc)) rfl
  have z3 := c3.size
  have z4 := w4.size
  refine ⟨_, ⟨w4.new, OwnS.keep o3 w4.chg (fun b hb e => by subst e; exact OwnS.ne o3 b3 (by decide) hb)⟩, ⟨by omega, fun b hb hn => ?_⟩, fun b hb => (f3 b hb).elim (fun e => .inl e) (fun e => .inr (by omega))⟩
  rw [w4.block b (fun e => hn (.inl e)), c3.block b (by omega) (fun e => hn (.inr e)), x2.block b (by omega), n1.block b hb]
theorem tnew_no {t : Tl} (hm : mayS t = false) (h : Heap) : Fx Tryz.prog 6 #[.agg (tlC t).toArray] h fun u h' => u = .tuple #[.pointer none, .int .i64 250] ∧ ExtH h h' := by
  refine fn_of 37 Tryz.func6 rfl (by kernel_rfl) rfl (by simp) ?_
  refine cw_seq (cw_go rfl ?_)
  intro h1 n1
  conv => whnf
  have y1 : Blk h1 h.size (tlC t) 24 := n1.blk
  refine cw_seq (cw_seq (cw_go rfl ?_))
  conv => whnf
  refine ⟨_, rfl, y1.all, ?_⟩
  conv => whnf
  refine ⟨_, rfl, _, may_fn t h1, ?_⟩
  rw [hm]
  rintro _ h2 ⟨rfl, x2⟩
  conv => whnf
  refine cw_true rfl ?_
  refine cw_seq (cw_go rfl ?_)
  conv => whnf
  exact cw_ret ⟨rfl, n1.ext.trans x2⟩
theorem may_in {t : Tl} (h : mayS t = true) : (1 ≤ t.s ∧ t.s ≤ 64) ∧ (1 ≤ t.m ∧ t.m ≤ 4096) ∧ 1 ≤ t.r ∧ t.r ≤ 4194304 := by
  unfold mayS at h
  simp at h
  omega
theorem may_64 {t : Tl} (h : mayS t = true) : Tl64 t := by
  have := may_in h
  exact ⟨by omega, by omega, by omega⟩
def saidS (t : Tl) : List UInt8 := encS t.s.toNat (keyS t)
theorem tnew_fn {t : Tl} (hm : mayS t = true) (h : Heap) : Fx Tryz.prog 6 #[.agg (tlC t).toArray] h fun u h' => ∃ p c d v, u = .tuple #[pp p, .int .i64 0] ∧ Wrk h' p c d t v (saidS t) ∧ ExtH h h' ∧ h.size ≤ p ∧ ∀ b, ob v b → h.size ≤ b := by
  refine fn_of 37 Tryz.func6 rfl (by kernel_rfl) rfl (by simp) ?_
  obtain ⟨hs, hn, hr⟩ := may_in hm
  refine cw_seq (cw_go rfl ?_)
  intro h1 n1
  conv => whnf
  have y1 : Blk h1 h.size (tlC t) 24 := n1.blk
  have x1 := n1.ext
  have z1 := n1.size
  refine cw_seq (cw_seq (cw_go rfl ?_))
  conv => whnf
  refine ⟨_, rfl, y1.all, ?_⟩
  conv => whnf
  refine ⟨_, rfl, _, may_fn t h1, ?_⟩
  rw [hm]
  rintro _ h2 ⟨rfl, x2⟩
  have y2 := x2.blk y1
  conv => whnf
  refine cw_false rfl (cw_skip ?_)
  refine cw_seq (cw_go rfl ?_)
  conv => whnf
  refine ⟨_, y2.rd (o := 0) rfl, ?_⟩
  conv => whnf
  refine ⟨_, y2.rd (o := 1) rfl, ?_⟩
  conv => whnf
  refine ⟨_, rfl, _, inew_fn t.s t.m hs hn h2, ?_⟩
  rintro _ h3 ⟨⟨c, rfl⟩, x3⟩
  conv => whnf
  refine cw_seq (cw_go rfl ?_)
  conv => whnf
  refine ⟨_, rfl, _, snew_fn h3, ?_⟩
  rintro _ h4 ⟨⟨d, rfl⟩, x4⟩
  have y4 := (x3.trans x4).blk y2
  conv => whnf
  refine cw_seq (cw_go rfl ?_)
  conv => whnf
  refine ⟨_, rfl, y4.all, ?_⟩
  conv => whnf
  refine ⟨_, rfl, (wC c t d (.slice none 0 0)).toArray, fun w => by kernel_rfl, ?_⟩
  conv => whnf
  conv => whnf
  intro h5 n5
  have W5 : Wrk h5 h4.size c d t (.slice none 0 0) [] := ⟨n5.blk, OB.nil h5⟩
  have y5 := n5.ext.blk y4
  have x5 := (x1.trans x2).trans ((x3.trans x4).trans n5.ext)
  have zz := ((x1.trans x2).trans (x3.trans x4)).size
  conv => whnf
  have es : t.s = ((t.s.toNat : Nat) : Int) := by omega
  refine cw_seq (cw_dgo (by kernel_rfl) 6 (List.range 6) (by kernel_rfl) rfl ?_)
  conv => whnf
  refine ⟨_, y5.rd (o := 0) rfl, ?_⟩
  conv => whnf
  refine ⟨_, rfl, y5.all, ?_⟩
  conv => whnf
  refine ⟨_, rfl, _, (fun g e => key_fn (may_64 hm) g), ?_⟩
  conv => whnf
  refine ⟨_, rfl, _, (fun g e => Hello_fn t.s (keyS_length t) g), ?_⟩
  conv => whnf
  intro h6 e6
  conv => whnf
  rw [es]
  refine ⟨_, rfl, _, say_fn (W5.more e6) (by simp) t.s.toNat ⟨by omega, by omega⟩ (keyS_length t), ?_⟩
  rintro u h7 ⟨v, W7, c7, f7⟩
  conv => whnf
  refine cw_seq (cw_go rfl ?_)
  conv => whnf
  have z6 := (x5.trans e6).size
  refine cw_ret ⟨h4.size, c, d, v, rfl, W7, ⟨by have := c7.size; omega, fun b hb => ?_⟩, by omega, fun b hb => (f7 b hb).elim (fun e => (ob_nil e).elim) (fun e => by omega)⟩
  rw [c7.block b (by omega) (fun e => e.elim (fun e => by omega) (fun e => (ob_nil e).elim)), (x5.trans e6).block b hb]
theorem out_fn {h : Heap} {p c d : Nat} {t : Tl} {v : Value} {l : List UInt8} (W : Wrk h p c d t v l) : Fx Tryz.prog 29 #[pp p] h fun u h' => u = .int .i64 (l.length : Int) ∧ h' = h := by
  refine fn_of 11 Tryz.func29 rfl (by kernel_rfl) rfl (by simp) ?_
  obtain ⟨va, vc, hve, _⟩ := Vm.Src.form (OB.r W.out)
  subst hve
  refine cw_seq (cw_go rfl ?_)
  conv => whnf
  refine cw_seq (cw_seq (cw_go rfl ?_))
  conv => whnf
  refine ⟨_, rfl, _, made_fn W, ?_⟩
  rintro _ h1 ⟨rfl, e⟩
  replace e := e.symm
  subst e
  conv => whnf
  refine cw_false rfl (cw_skip ?_)
  refine cw_seq (cw_go rfl ?_)
  conv => whnf
  refine ⟨_, W.blk.rd (o := 8) rfl, ?_⟩
  conv => whnf
  exact cw_ret ⟨rfl, rfl⟩
theorem takes_fn {h : Heap} {p c d : Nat} {t : Tl} {v : Value} {l : List UInt8} (W : Wrk h p c d t v l) (ht : 1 ≤ t.s ∧ t.s ≤ 64) : Fx Tryz.prog 28 #[pp p] h fun u h' => u = .bool true ∧ ExtH h h' := by
  refine fn_of 35 Tryz.func28 rfl (by kernel_rfl) rfl (by simp) ?_
  refine cw_seq (cw_go rfl ?_)
  conv => whnf
  refine cw_seq (cw_dgo (by kernel_rfl) 32 (List.range 32) (by kernel_rfl) rfl ?_)
  conv => whnf
  refine ⟨_, rfl, _, (fun g e => (made_fn (W.more e)).mono (fun _ _ ⟨e1, e2⟩ => ⟨e1, e2 ▸ ExtH.refl _⟩)), ?_⟩
  conv => whnf
  refine ⟨_, W.blk.rd (o := 9) rfl, ?_⟩
  conv => whnf
  refine ⟨_, rfl, W.blk.rdN 6 [.int .i64 0, .int .i64 0] rfl, ?_⟩
  conv => whnf
  refine ⟨_, rfl, #[.int .i64 0, .int .i64 0], fun w => by kernel_rfl, ?_⟩
  conv => whnf
  conv => whnf
  refine ⟨.bool true, fun w => by kernel_rfl, ?_⟩
  conv => whnf
  conv => whnf
  refine ⟨_, W.blk.rd (o := 5) rfl, ?_⟩
  conv => whnf
  refine ⟨_, W.blk.rd (o := 1) rfl, ?_⟩
  conv => whnf
  refine say_i (by omega) ?_
  conv => whnf
  refine say_i (by omega) ?_
  conv => whnf
  refine say_t (by omega) ?_
  conv => whnf
  intro h1 e1
  exact cw_ret ⟨rfl, e1⟩
end Go.Proofs.YtgecapllodgdeaaGreatDoor
