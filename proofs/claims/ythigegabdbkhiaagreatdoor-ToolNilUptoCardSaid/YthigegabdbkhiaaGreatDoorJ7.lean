/-
  The contracts of the document's rotr and Compress: the table is a package's.
  From a contract over a heap to the row's step: a call that comes back with true and only makes blocks.
  What the row says of an argument, as the contracts want it: an array of bytes, bytes that are read.
  A hash that took the bytes m, as the laws use it.
  The contract of package sha's Load where it takes the state.
  The contracts of package sha's State, of Write where it refuses, and of the document's Same.
  Tags: package sha's tagged and the document's Tag.
-/
import Derived.Test.YthigegabdbkhiaaGreatDoorJ5
import Derived.Test.YthigegabdbkhiaaGreatDoorJ6
import Derived.WalkKit
import Derived.ProofKit
import Derived.OpenShut
import Derived.ShutString
import Derived.ChangeOld
import Derived.Below
import Derived.Test.YthigegabdbkhiaaGreatDoorRows
namespace Go.Proofs.YthigegabdbkhiaaGreatDoor
open Go Vm
set_option maxRecDepth 100000
theorem rotr_fn (x : UInt32) (n : Nat) (h1 : 1 ≤ n) (h2 : n ≤ 31) : FxP Tryz.prog 209 #[u32v x, .int .u64 (n : Int)] (u32v (Sha.rotr x n)) := by
  intro h
  refine fn_of 13 Tryz.func209 rfl (by kernel_rfl) rfl (by simp) ?_
  refine cw_seq (cw_region rfl ?_)
  refine cw_seq (cw_region rfl ?_)
  conv => whnf
  refine ⟨by omega, ?_⟩
  conv => whnf
  have e : IntKind.u64.wrap (32 - (n : Int)) = ((32 - n : Nat) : Int) := by simp [IntKind.wrap, IntKind.bits, IntKind.signed]; omega
  refine ⟨by show 0 ≤ IntKind.u64.wrap (32 - (n : Int)); omega, ?_⟩
  conv => whnf
  refine cw_ret ⟨?_, rfl⟩
  show Value.int .u32 (bits .or .u32 ((x.toNat : Int) / 2 ^ min ((n : Int)).toNat 32) (IntKind.u32.wrap ((x.toNat : Int) * 2 ^ min (IntKind.u64.wrap (32 - (n : Int))).toNat 32))) = _
  rw [e, show min ((n : Int)).toNat 32 = n by omega, show min (((32 - n : Nat) : Int)).toNat 32 = 32 - n by omega]
  have hr := rot_eq x (32 - n) (by omega) (by omega)
  rw [show 32 - (32 - n) = n by omega] at hr
  refine congrArg (Value.int .u32) (Eq.trans ?_ hr)
  have e1 : IntKind.u32.wrap ((x.toNat : Int) * 2 ^ (32 - n)) = ((x.toNat * 2 ^ (32 - n) % 4294967296 : Nat) : Int) := by
    rw [IntKind.wrap_u32]; simp
  have e2 : (x.toNat : Int) / 2 ^ n = ((x.toNat / 2 ^ n : Nat) : Int) := by simp
  have b1 : x.toNat * 2 ^ (32 - n) % 4294967296 < 4294967296 := Nat.mod_lt _ (by decide)
  have b2 : x.toNat / 2 ^ n < 4294967296 := Nat.lt_of_le_of_lt (Nat.div_le_self _ _) (u32_lt x)
  rw [e1, e2, u32_or_nat _ _ b1 b2, u32_or_nat _ _ b2 b1, Nat.or_comm]
/-- the document's table lies where it was laid -/
def Tab (h : Heap) : Prop := rdN h 1 0 (Sha.K.map u32v)
theorem Tab.more {h h' : Heap} (T : Tab h) (x : ExtH h h') : Tab h' := (x.chg (S := fun _ => False)).rdN T (fun e => e)
theorem Tab.lt {h : Heap} (T : Tab h) : 1 < h.size := rd_lt (T 0 _ rfl)
/-- the blocks of a call of the document's Compress -/
structure RC (h0 : Heap) (hb bb rb wb : Nat) (s : Sha.S8) (l : List UInt8) (wl : List Value) (h : Heap) : Prop where
  lb : h0.size ≤ hb ∧ h0.size ≤ bb ∧ h0.size ≤ rb ∧ h0.size ≤ wb ∧ hb < bb ∧ bb < rb ∧ rb < wb
  ext : ExtH h0 h
  H : Blk h hb (s.list.map u32v) 251
  B : Blk h bb (l.map u8v) 287
  R : Blk h rb (List.replicate 8 z32) 251
  W : Blk h wb wl 314
theorem RC.more {h0 : Heap} {hb bb rb wb : Nat} {s : Sha.S8} {l : List UInt8} {wl : List Value} {h h' : Heap} (c : RC h0 hb bb rb wb s l wl h) (e : ExtH h h') : RC h0 hb bb rb wb s l wl h' :=
  ⟨c.lb, c.ext.trans e, e.blk c.H, e.blk c.B, e.blk c.R, e.blk c.W⟩
theorem RC.wrote {h0 : Heap} {hb bb rb wb : Nat} {s : Sha.S8} {l : List UInt8} {wl wl' : List Value} {h h' : Heap} {t : TypeId} (c : RC h0 hb bb rb wb s l wl h) (e : Wrote h h' wb wl' t) (ht : t = 314) : RC h0 hb bb rb wb s l wl' h' := by
  subst ht
  have := c.lb
  exact ⟨c.lb, ⟨by rw [e.size]; exact c.ext.size, fun b hb' => by rw [e.block b (by omega)]; exact c.ext.block b hb'⟩, e.blk c.H (by omega), e.blk c.B (by omega), e.blk c.R (by omega), e.new⟩
structure RS (h0 : Heap) (hb bb rb wb sb : Nat) (s : Sha.S8) (l : List UInt8) (wl sl : List Value) (h : Heap) : Prop where
  c : RC h0 hb bb rb wb s l wl h
  lt : wb < sb
  S : Blk h sb sl 251
theorem RS.more {h0 : Heap} {hb bb rb wb sb : Nat} {s : Sha.S8} {l : List UInt8} {wl sl : List Value} {h h' : Heap} (c : RS h0 hb bb rb wb sb s l wl sl h) (e : ExtH h h') : RS h0 hb bb rb wb sb s l wl sl h' :=
  ⟨c.c.more e, c.lt, e.blk c.S⟩
theorem RS.wrote {h0 : Heap} {hb bb rb wb sb : Nat} {s : Sha.S8} {l : List UInt8} {wl sl sl' : List Value} {h h' : Heap} {t : TypeId} (c : RS h0 hb bb rb wb sb s l wl sl h) (e : Wrote h h' sb sl' t) (ht : t = 251) : RS h0 hb bb rb wb sb s l wl sl' h' := by
  subst ht
  have := c.c.lb
  have := c.lt
  exact ⟨⟨c.c.lb, ⟨by rw [e.size]; exact c.c.ext.size, fun b hb' => by rw [e.block b (by omega)]; exact c.c.ext.block b hb'⟩, e.blk c.c.H (by omega), e.blk c.c.B (by omega), e.blk c.c.R (by omega), e.blk c.c.W (by omega)⟩, c.lt, e.new⟩
theorem next_eq' (w : List UInt32) (t : Nat) (i : Int) (hi : i = ((Sha.s1 (w.getD (t - 2) 0) + w.getD (t - 7) 0 + Sha.s0 (w.getD (t - 15) 0) + w.getD (t - 16) 0).toNat : Int)) : Value.int .u32 i = u32v (Sha.next w t) := by
  rw [hi]
  unfold Sha.next u32v
  congr 3
  ac_rfl
theorem t1_eq' (s : Sha.S8) (k w : UInt32) : IntKind.u32.wrap (IntKind.u32.wrap (IntKind.u32.wrap (IntKind.u32.wrap ((s.h.toNat : Int) + bits .xor .u32 (bits .xor .u32 ((Sha.rotr s.e 6).toNat : Int) ((Sha.rotr s.e 11).toNat : Int)) ((Sha.rotr s.e 25).toNat : Int)) +
    bits .xor .u32 (bits .and .u32 (s.e.toNat : Int) (s.f.toNat : Int)) (bits .and .u32 (bits .xor .u32 4294967295 (s.e.toNat : Int)) (s.g.toNat : Int))) + (k.toNat : Int)) + (w.toNat : Int)) = ((Sha.t1 s k w).toNat : Int) := by
  rw [S1_eq]
  exact t1_eq s k w
theorem t2_eq' (s : Sha.S8) : IntKind.u32.wrap (bits .xor .u32 (bits .xor .u32 ((Sha.rotr s.a 2).toNat : Int) ((Sha.rotr s.a 13).toNat : Int)) ((Sha.rotr s.a 22).toNat : Int) +
    bits .xor .u32 (bits .xor .u32 (bits .and .u32 (s.a.toNat : Int) (s.b.toNat : Int)) (bits .and .u32 (s.a.toNat : Int) (s.c.toNat : Int))) (bits .and .u32 (s.b.toNat : Int) (s.c.toNat : Int))) = ((Sha.t2 s).toNat : Int) := by
  rw [S0_eq]
  exact t2_eq s
set_option maxHeartbeats 1000000 in
theorem rcompress_fn (s : Sha.S8) (l : List UInt8) (hl : l.length = 64) (h0 : Heap) (T : Tab h0) :
    Fx Tryz.prog 158 #[.agg (s.list.map u32v).toArray, .agg (l.map u8v).toArray] h0 fun v h' => v = .agg ((Sha.compress s l).list.map u32v).toArray ∧ ExtH h0 h' := by
  refine fn_of 192 Tryz.func158 rfl (by kernel_rfl) rfl (by simp) ?_
  refine cw_seq (cw_region rfl ?_)
  conv => whnf
  intro h1 n1
  conv => whnf
  intro h2 n2
  conv => whnf
  intro h3 n3
  refine cw_seq (cw_region rfl ?_)
  conv => whnf
  intro h7 n7
  have z1 := n1.size; have z2 := n2.size; have z3 := n3.size; have z7 := n7.size
  have c : RC h0 h0.size h1.size h2.size h3.size s l (wcells l 0) h7 := by
    refine ⟨⟨by omega, by omega, by omega, by omega, by omega, by omega, by omega⟩, ?_, ?_, ?_, ?_, ?_⟩
    · exact ((n1.ext.trans n2.ext).trans (n3.ext.trans n7.ext))
    · exact n7.ext.blk (n3.ext.blk (n2.ext.blk n1.blk))
    · exact n7.ext.blk (n3.ext.blk n2.blk)
    · exact n7.ext.blk n3.blk
    · exact n7.blk
  generalize h1.size = bb at *; generalize h2.size = rb at *; generalize h3.size = wb at *
  generalize hhb : h0.size = hb at *
  clear n1 n2 n3 n7 z1 z2 z3 z7
  -- the sixteen words of the block
  refine cw_seq (cw_seq (cw_region rfl ?_))
  refine cw_block ?_
  refine cw_loop (S := Nat) (fun t => [(2, .pointer (some ⟨hb, 0, none⟩)), (3, .pointer (some ⟨bb, 0, none⟩)), (4, .pointer (some ⟨rb, 0, none⟩)), (5, .pointer (some ⟨wb, 0, none⟩)), (6, .int .i64 (t : Int))])
    (fun t h => t ≤ 16 ∧ RC h0 hb bb rb wb s l (wcells l t) h) (fun t => 16 - t) 0 ⟨rfl, rfl, rfl, rfl, rfl, trivial⟩ ⟨by omega, c⟩ ?_
  clear c h1 h2 h3 h7
  rintro t h ⟨ht, c⟩
  refine cw_seq (cw_seq (cw_region rfl ?_))
  conv => whnf
  by_cases hlt : t < 16
  · refine cw_yes rfl (by omega) (cw_skip ?_)
    refine cw_seq (cw_block ?_)
    refine cw_drawn (by kernel_rfl) 31 (fun _ => false) (List.range 31) (by kernel_rfl) rfl ?_
    conv => whnf
    have rB : ∀ (i : Int) (n : Nat), i = n → n < 64 → rd h ⟨bb, 0 + i.toNat, none⟩ = some (u8v (l.getD n 0)) := fun i n e hn => by
      subst e
      refine c.B.rd ?_
      rw [show 0 + ((n : Int)).toNat = n by omega]
      exact map_get u8v l n 0 (by omega)
    have e0 := i64_eq (4 * (t : Int)) (4 * t) (by omega) (by omega)
    have e1 := i64_eq (IntKind.i64.wrap (4 * (t : Int)) + 1) (4 * t + 1) (by omega) (by omega)
    have e2 := i64_eq (IntKind.i64.wrap (4 * (t : Int)) + 2) (4 * t + 2) (by omega) (by omega)
    have e3 := i64_eq (IntKind.i64.wrap (4 * (t : Int)) + 3) (4 * t + 3) (by omega) (by omega)
    refine ⟨⟨by omega, by omega⟩, ?_⟩
    conv => whnf
    refine ⟨_, rB _ _ e0 (by omega), ?_⟩
    conv => whnf
    refine ⟨by decide, ?_⟩
    conv => whnf
    refine ⟨⟨by omega, by omega⟩, ?_⟩
    conv => whnf
    refine ⟨_, rB _ _ e1 (by omega), ?_⟩
    conv => whnf
    refine ⟨by decide, ?_⟩
    conv => whnf
    refine ⟨⟨by omega, by omega⟩, ?_⟩
    conv => whnf
    refine ⟨_, rB _ _ e2 (by omega), ?_⟩
    conv => whnf
    refine ⟨by decide, ?_⟩
    conv => whnf
    refine ⟨⟨by omega, by omega⟩, ?_⟩
    conv => whnf
    refine ⟨_, rB _ _ e3 (by omega), ?_⟩
    conv => whnf
    refine ⟨⟨by omega, by omega⟩, ?_⟩
    conv => whnf
    intro h' x'
    conv => whnf
    refine ⟨_, _, (c.more x').W, by simp [wcells, Sha.words_length]; omega, ?_⟩
    intro h'' w
    have w := w.cast (l' := wcells l (t + 1)) (by
      rw [← wcells_set l t hlt]
      exact congr (congrArg (List.set (wcells l t)) (show 0 + ((t : Int)).toNat = t by omega)) (congrArg (Value.int .u32) (be_eq _ _ _ _)))
    refine cw_region rfl ?_
    exact ⟨t + 1, ⟨rfl, rfl, rfl, rfl, slot_i64 _ _ (by omega) (by omega), trivial⟩, ⟨by omega, (c.more x').wrote w rfl⟩, by omega⟩
  · refine cw_no rfl (by omega) (cw_exit ?_)
    have t16 : t = 16 := by omega
    subst t16
    -- the forty-eight words behind them
    refine cw_seq (cw_seq (cw_region rfl ?_))
    refine cw_block ?_
    refine cw_loop (S := Nat) (fun t => [(2, .pointer (some ⟨hb, 0, none⟩)), (4, .pointer (some ⟨rb, 0, none⟩)), (5, .pointer (some ⟨wb, 0, none⟩)), (7, .int .i64 ((16 + t : Nat) : Int))])
      (fun t h => t ≤ 48 ∧ RC h0 hb bb rb wb s l (vcells l t) h) (fun t => 48 - t) 0 ⟨rfl, rfl, rfl, rfl, trivial⟩ ⟨by omega, vcells_zero l ▸ c⟩ ?_
    clear c h hlt ht
    rintro t h ⟨ht, c⟩
    refine cw_seq (cw_seq (cw_region rfl ?_))
    conv => whnf
    by_cases hlt : t < 48
    · refine cw_yes rfl (by omega) (cw_skip ?_)
      have rW : ∀ (h : Heap), RC h0 hb bb rb wb s l (vcells l t) h → ∀ (i : Int) (n : Nat), i = n → n < 16 + t → rd h ⟨wb, 0 + i.toNat, none⟩ = some (u32v ((Sha.ext (Sha.words l 16) t).getD n 0)) := fun h c i n e hn => by
        subst e
        refine c.W.rd ?_
        rw [show 0 + ((n : Int)).toNat = n by omega]
        unfold vcells
        rw [List.getElem?_append_left (by simp [Sha.ext_length, Sha.words_length]; omega)]
        exact map_get u32v _ n 0 (by simp [Sha.ext_length, Sha.words_length]; omega)
      have i15 := i64_eq (((16 + t : Nat) : Int) - 15) (16 + t - 15) (by omega) (by omega)
      have i2 := i64_eq (((16 + t : Nat) : Int) - 2) (16 + t - 2) (by omega) (by omega)
      have i16 := i64_eq (((16 + t : Nat) : Int) - 16) (16 + t - 16) (by omega) (by omega)
      have i7 := i64_eq (((16 + t : Nat) : Int) - 7) (16 + t - 7) (by omega) (by omega)
      refine cw_seq (cw_block (cw_seq ?_))
      refine cw_drawn (by kernel_rfl) 9 (fun _ => false) (List.range 9) (by kernel_rfl) rfl ?_
      conv => whnf
      refine ⟨⟨by omega, by omega⟩, ?_⟩
      conv => whnf
      refine ⟨_, rW h c _ _ i15 (by omega), ?_⟩
      conv => whnf
      refine ⟨⟨by omega, by omega⟩, ?_⟩
      conv => whnf
      refine ⟨_, rW h c _ _ i2 (by omega), ?_⟩
      conv => whnf
      intro h1 e1
      replace c := c.more e1
      refine cw_seq (cw_region rfl ?_)
      conv => whnf
      refine ⟨_, rfl, _, rotr_fn _ 7 (by omega) (by omega) _, ?_⟩
      rintro _ _ ⟨rfl, rfl⟩
      conv => whnf
      refine ⟨_, rfl, _, rotr_fn _ 18 (by omega) (by omega) _, ?_⟩
      rintro _ _ ⟨rfl, rfl⟩
      conv => whnf
      refine ⟨by decide, ?_⟩
      refine cw_keep [(2, .pointer (some ⟨hb, 0, none⟩)), (4, .pointer (some ⟨rb, 0, none⟩)), (5, .pointer (some ⟨wb, 0, none⟩)), (7, .int .i64 ((16 + t : Nat) : Int)),
        (9, u32v ((Sha.ext (Sha.words l 16) t).getD (16 + t - 2) 0)), (10, u32v (Sha.s0 ((Sha.ext (Sha.words l 16) t).getD (16 + t - 15) 0)))]
        ⟨rfl, rfl, rfl, rfl, rfl, congrArg (fun i => some (Value.int .u32 i)) (s0_eq _), trivial⟩ ?_
      refine cw_seq (cw_region rfl ?_)
      conv => whnf
      refine ⟨_, rfl, _, rotr_fn _ 17 (by omega) (by omega) _, ?_⟩
      rintro _ _ ⟨rfl, rfl⟩
      conv => whnf
      refine ⟨_, rfl, _, rotr_fn _ 19 (by omega) (by omega) _, ?_⟩
      rintro _ _ ⟨rfl, rfl⟩
      conv => whnf
      refine ⟨by decide, ?_⟩
      refine cw_keep [(2, .pointer (some ⟨hb, 0, none⟩)), (4, .pointer (some ⟨rb, 0, none⟩)), (5, .pointer (some ⟨wb, 0, none⟩)), (7, .int .i64 ((16 + t : Nat) : Int)),
        (10, u32v (Sha.s0 ((Sha.ext (Sha.words l 16) t).getD (16 + t - 15) 0))), (11, u32v (Sha.s1 ((Sha.ext (Sha.words l 16) t).getD (16 + t - 2) 0)))]
        ⟨rfl, rfl, rfl, rfl, rfl, congrArg (fun i => some (Value.int .u32 i)) (s1_eq _), trivial⟩ ?_
      refine cw_drawn (by kernel_rfl) 15 (fun _ => false) (List.range 15) (by kernel_rfl) rfl ?_
      conv => whnf
      refine ⟨⟨by omega, by omega⟩, ?_⟩
      conv => whnf
      refine ⟨_, rW _ c _ _ i7 (by omega), ?_⟩
      conv => whnf
      refine ⟨⟨by omega, by omega⟩, ?_⟩
      conv => whnf
      refine ⟨_, rW _ c _ _ i16 (by omega), ?_⟩
      conv => whnf
      refine ⟨⟨by omega, by omega⟩, ?_⟩
      conv => whnf
      intro h2 e2
      conv => whnf
      refine ⟨_, _, (c.more e2).W, by simp [vcells, Sha.ext_length, Sha.words_length]; omega, ?_⟩
      intro h3 w
      have w := w.cast (l' := vcells l (t + 1)) (by
        rw [← vcells_set l t hlt]
        exact congr (congrArg (List.set (vcells l t)) (show 0 + (((16 + t : Nat) : Int)).toNat = 16 + t by omega)) (next_eq' _ _ _ (next_eq _ _ _ _)))
      refine cw_region rfl ?_
      exact ⟨t + 1, ⟨rfl, rfl, rfl, slot_i64 _ _ (by omega) (by omega), trivial⟩, ⟨by omega, (c.more e2).wrote w rfl⟩, by omega⟩
    · refine cw_no rfl (by omega) (cw_exit ?_)
      have t48 : t = 48 := by omega
      subst t48
      rw [wcells_sched] at c
      -- the state
      refine cw_seq (cw_region rfl ?_)
      conv => whnf
      refine ⟨_, by rfl, c.H.all, ?_⟩
      conv => whnf
      intro h1 n1
      conv => whnf
      refine ⟨_, _, n1.blk, ⟨Nat.le_refl 8, by rfl, by simp [u32v, Value.oneCell', Sha.S8.list]⟩, ?_⟩
      intro h2 w2
      replace c : RS h0 hb bb rb wb h.size s l ((Sha.sched l).map u32v) ((Sha.rounds (Sha.sched l) s 0).list.map u32v) h2 := by
        have lb := c.lb
        have l1 := c.H.lt; have l2 := c.B.lt; have l3 := c.R.lt; have l5 := c.W.lt
        have k := c.more n1.ext
        exact ⟨⟨c.lb, ⟨by rw [w2.size]; exact k.ext.size, fun b hb' => by rw [w2.block b (by have := c.ext.size; omega)]; exact k.ext.block b hb'⟩, w2.blk k.H (by omega), w2.blk k.B (by omega), w2.blk k.R (by omega), w2.blk k.W (by omega)⟩, l5, w2.new⟩
      generalize h.size = sb at *
      clear n1 w2 ht hlt h1
      refine cw_seq (cw_seq (cw_region rfl ?_))
      refine cw_block ?_
      refine cw_loop (S := Nat) (fun t => [(2, .pointer (some ⟨hb, 0, none⟩)), (4, .pointer (some ⟨rb, 0, none⟩)), (5, .pointer (some ⟨wb, 0, none⟩)), (12, .pointer (some ⟨sb, 0, none⟩)), (13, .int .i64 (t : Int))])
        (fun t h => t ≤ 64 ∧ RS h0 hb bb rb wb sb s l ((Sha.sched l).map u32v) ((Sha.rounds (Sha.sched l) s t).list.map u32v) h) (fun t => 64 - t) 0 ⟨rfl, rfl, rfl, rfl, rfl, trivial⟩ ⟨by omega, c⟩ ?_
      clear c h h2
      rintro t h ⟨ht, c⟩
      refine cw_seq (cw_seq (cw_region rfl ?_))
      conv => whnf
      by_cases hlt : t < 64
      · refine cw_yes rfl (by omega) (cw_skip ?_)
        generalize hst : Sha.rounds (Sha.sched l) s t = st at *
        have rS : ∀ (h : Heap), RS h0 hb bb rb wb sb s l ((Sha.sched l).map u32v) (st.list.map u32v) h → ∀ (n : Nat) (v : Value), (st.list.map u32v)[n]? = some v → rd h ⟨sb, n, none⟩ = some v := fun h c n v hv => c.S.rd hv
        refine cw_seq (cw_block (cw_seq ?_))
        refine cw_drawn (by kernel_rfl) 5 (fun _ => false) (List.range 5) (by kernel_rfl) rfl ?_
        conv => whnf
        refine ⟨⟨by decide, by decide⟩, ?_⟩
        conv => whnf
        refine ⟨_, rS h c 0 (u32v st.a) rfl, ?_⟩
        conv => whnf
        refine ⟨⟨by decide, by decide⟩, ?_⟩
        conv => whnf
        refine ⟨_, rS h c 4 (u32v st.e) rfl, ?_⟩
        conv => whnf
        intro h1 e1
        replace c := c.more e1
        have T1 := T.more c.c.ext
        refine cw_seq ?_
        refine cw_drawn (by kernel_rfl) 30 (fun _ => false) (List.range 30) (by kernel_rfl) rfl ?_
        conv => whnf
        refine ⟨⟨by decide, by decide⟩, ?_⟩
        conv => whnf
        refine ⟨_, rS _ c 7 (u32v st.h) rfl, ?_⟩
        conv => whnf
        refine ⟨_, rfl, _, (rotr_fn st.e 6 (by omega) (by omega)).q _, ?_⟩
        conv => whnf
        refine ⟨_, rfl, _, (rotr_fn st.e 11 (by omega) (by omega)).q _, ?_⟩
        conv => whnf
        refine ⟨_, rfl, _, (rotr_fn st.e 25 (by omega) (by omega)).q _, ?_⟩
        conv => whnf
        refine ⟨⟨by decide, by decide⟩, ?_⟩
        conv => whnf
        refine ⟨_, rS _ c 5 (u32v st.f) rfl, ?_⟩
        conv => whnf
        refine ⟨⟨by decide, by decide⟩, ?_⟩
        conv => whnf
        refine ⟨_, rS _ c 6 (u32v st.g) rfl, ?_⟩
        conv => whnf
        refine ⟨⟨by omega, by omega⟩, ?_⟩
        conv => whnf
        refine ⟨u32v (Sha.K.getD t 0), by
          have := T1 t _ (map_get u32v Sha.K t 0 hlt)
          rwa [show 0 + t = 0 + ((t : Int)).toNat by omega] at this, ?_⟩
        conv => whnf
        refine ⟨⟨by omega, by omega⟩, ?_⟩
        conv => whnf
        refine ⟨u32v ((Sha.sched l).getD t 0), c.c.W.rd (by rw [show 0 + ((t : Int)).toNat = t by omega]; exact map_get u32v _ t 0 (by rw [Sha.sched_length]; exact hlt)), ?_⟩
        conv => whnf
        intro h2 e2
        replace c := c.more e2
        refine cw_keep [(2, .pointer (some ⟨hb, 0, none⟩)), (4, .pointer (some ⟨rb, 0, none⟩)), (5, .pointer (some ⟨wb, 0, none⟩)), (12, .pointer (some ⟨sb, 0, none⟩)), (13, .int .i64 (t : Int)),
          (14, u32v st.a), (15, u32v st.e), (16, u32v (Sha.t1 st (Sha.K.getD t 0) ((Sha.sched l).getD t 0)))]
          ⟨rfl, rfl, rfl, rfl, rfl, rfl, rfl, congrArg (fun i => some (Value.int .u32 i)) (t1_eq' st _ _), trivial⟩ ?_
        refine cw_seq ?_
        refine cw_drawn (by kernel_rfl) 24 (fun _ => false) (List.range 24) (by kernel_rfl) rfl ?_
        conv => whnf
        refine ⟨_, rfl, _, (rotr_fn st.a 2 (by omega) (by omega)).q _, ?_⟩
        conv => whnf
        refine ⟨_, rfl, _, (rotr_fn st.a 13 (by omega) (by omega)).q _, ?_⟩
        conv => whnf
        refine ⟨_, rfl, _, (rotr_fn st.a 22 (by omega) (by omega)).q _, ?_⟩
        conv => whnf
        refine ⟨⟨by decide, by decide⟩, ?_⟩
        conv => whnf
        refine ⟨_, rS _ c 1 (u32v st.b) rfl, ?_⟩
        conv => whnf
        refine ⟨⟨by decide, by decide⟩, ?_⟩
        conv => whnf
        refine ⟨_, rS _ c 2 (u32v st.c) rfl, ?_⟩
        conv => whnf
        refine ⟨⟨by decide, by decide⟩, ?_⟩
        conv => whnf
        refine ⟨_, rS _ c 1 (u32v st.b) rfl, ?_⟩
        conv => whnf
        refine ⟨⟨by decide, by decide⟩, ?_⟩
        conv => whnf
        refine ⟨_, rS _ c 2 (u32v st.c) rfl, ?_⟩
        conv => whnf
        intro h3 e3
        replace c := c.more e3
        refine cw_keep [(2, .pointer (some ⟨hb, 0, none⟩)), (4, .pointer (some ⟨rb, 0, none⟩)), (5, .pointer (some ⟨wb, 0, none⟩)), (12, .pointer (some ⟨sb, 0, none⟩)), (13, .int .i64 (t : Int)),
          (14, u32v st.a), (15, u32v st.e), (16, u32v (Sha.t1 st (Sha.K.getD t 0) ((Sha.sched l).getD t 0))), (17, u32v (Sha.t2 st))]
          ⟨rfl, rfl, rfl, rfl, rfl, rfl, rfl, rfl, congrArg (fun i => some (Value.int .u32 i)) (t2_eq' st), trivial⟩ ?_
        refine cw_region rfl ?_
        conv => whnf
        refine ⟨⟨by decide, by decide⟩, ?_⟩
        conv => whnf
        refine ⟨_, rS _ c 1 (u32v st.b) rfl, ?_⟩
        conv => whnf
        refine ⟨⟨by decide, by decide⟩, ?_⟩
        conv => whnf
        refine ⟨_, rS _ c 2 (u32v st.c) rfl, ?_⟩
        conv => whnf
        refine ⟨⟨by decide, by decide⟩, ?_⟩
        conv => whnf
        refine ⟨_, rS _ c 3 (u32v st.d) rfl, ?_⟩
        conv => whnf
        refine ⟨⟨by decide, by decide⟩, ?_⟩
        conv => whnf
        refine ⟨_, rS _ c 5 (u32v st.f) rfl, ?_⟩
        conv => whnf
        refine ⟨⟨by decide, by decide⟩, ?_⟩
        conv => whnf
        refine ⟨_, rS _ c 6 (u32v st.g) rfl, ?_⟩
        conv => whnf
        generalize hk : Sha.K.getD t 0 = kt at *
        generalize hw : (Sha.sched l).getD t 0 = wt at *
        refine ⟨_, rfl, #[.int .u32 (IntKind.u32.wrap (((Sha.t1 st kt wt).toNat : Int) + ((Sha.t2 st).toNat : Int))), u32v st.a, u32v st.b, u32v st.c, .int .u32 (IntKind.u32.wrap ((st.d.toNat : Int) + ((Sha.t1 st kt wt).toNat : Int))), u32v st.e, u32v st.f, u32v st.g], fun w => by kernel_rfl, ?_⟩
        rw [wrap_add32, wrap_add32]
        conv => whnf
        refine ⟨_, _, c.S, ⟨Nat.le_refl 8, by rfl, by simp [u32v, Value.oneCell']⟩, ?_⟩
        intro h4 w4
        have w4 := w4.cast (l' := (Sha.rounds (Sha.sched l) s (t + 1)).list.map u32v) (by
          simp only [Sha.rounds, hst, hk, hw]
          rfl)
        refine cw_region rfl ?_
        exact ⟨t + 1, ⟨rfl, rfl, rfl, rfl, slot_i64 _ _ (by omega) (by omega), trivial⟩, ⟨by omega, c.wrote w4 rfl⟩, by omega⟩
      · refine cw_no rfl (by omega) (cw_exit ?_)
        have t64 : t = 64 := by omega
        subst t64
        generalize hr : Sha.rounds (Sha.sched l) s 64 = r at *
        -- the sum
        refine cw_seq (cw_seq (cw_region rfl ?_))
        refine cw_block ?_
        refine cw_loop (S := Nat) (fun t => [(2, .pointer (some ⟨hb, 0, none⟩)), (4, .pointer (some ⟨rb, 0, none⟩)), (12, .pointer (some ⟨sb, 0, none⟩)), (18, .int .i64 (t : Int))])
          (fun t h => t ≤ 8 ∧ RS h0 hb bb rb wb sb s l ((Sha.sched l).map u32v) (acells r s t) h) (fun t => 8 - t) 0 ⟨rfl, rfl, rfl, rfl, trivial⟩ ⟨by omega, c⟩ ?_
        clear c h ht hlt
        rintro t h ⟨ht, c⟩
        refine cw_seq (cw_seq (cw_region rfl ?_))
        conv => whnf
        by_cases hlt : t < 8
        · refine cw_yes rfl (by omega) (cw_skip ?_)
          refine cw_seq (cw_block ?_)
          refine cw_drawn (by kernel_rfl) 9 (fun _ => false) (List.range 9) (by kernel_rfl) rfl ?_
          conv => whnf
          refine ⟨⟨by omega, by omega⟩, ?_⟩
          conv => whnf
          refine ⟨u32v (r.list.getD t 0), c.S.rd (by rw [show 0 + ((t : Int)).toNat = t by omega]; exact acells_get r s t hlt), ?_⟩
          conv => whnf
          refine ⟨⟨by omega, by omega⟩, ?_⟩
          conv => whnf
          refine ⟨u32v (s.list.getD t 0), c.c.H.rd (by rw [show 0 + ((t : Int)).toNat = t by omega]; exact map_get u32v _ t 0 (by simpa [Sha.S8.list] using hlt)), ?_⟩
          conv => whnf
          refine ⟨⟨by omega, by omega⟩, ?_⟩
          conv => whnf
          intro h1 e1
          conv => whnf
          refine ⟨_, _, (c.more e1).S, by simp [acells, Sha.S8.list]; omega, ?_⟩
          intro h2 w
          have w := w.cast (l' := acells r s (t + 1)) (by
            rw [← acells_set r s t hlt]
            exact congr (congrArg (List.set (acells r s t)) (show 0 + ((t : Int)).toNat = t by omega)) (congrArg (Value.int .u32) (wrap_add32 _ _)))
          refine cw_region rfl ?_
          exact ⟨t + 1, ⟨rfl, rfl, rfl, slot_i64 _ _ (by omega) (by omega), trivial⟩, ⟨by omega, (c.more e1).wrote w rfl⟩, by omega⟩
        · refine cw_no rfl (by omega) (cw_exit ?_)
          have t8 : t = 8 := by omega
          subst t8
          have ea : acells r s 8 = ((Sha.compress s l).list.map u32v) := by
            subst hr
            rfl
          rw [ea] at c
          refine cw_seq (cw_region rfl ?_)
          conv => whnf
          refine ⟨_, by rfl, c.S.all, ?_⟩
          conv => whnf
          refine ⟨_, _, c.c.R, ⟨Nat.le_refl 8, by rfl, by simp [u32v, Value.oneCell', Sha.S8.list]⟩, ?_⟩
          intro h1 w1
          refine cw_ret ?_
          refine ⟨_, by rfl, w1.new.all, rfl, ?_⟩
          have lb := c.c.lb
          exact ⟨by rw [w1.size]; exact c.c.ext.size, fun b hb' => by rw [w1.block b (by omega)]; exact c.c.ext.block b hb'⟩
theorem rcompress_q (s : Sha.S8) (l : List UInt8) (hl : l.length = 64) (h : Heap) (T : Tab h) : FxQ Tryz.prog 158 #[.agg (s.list.map u32v).toArray, .agg (l.map u8v).toArray] h (.agg ((Sha.compress s l).list.map u32v).toArray) :=
  fun h1 x => rcompress_fn s l hl h1 (T.more x)
end Go.Proofs.YthigegabdbkhiaaGreatDoor
namespace Go.Proofs.YthigegabdbkhiaaGreatDoor.Vm
open Go Go.RowKit
theorem Fx.calls {P : Program} {f : FuncId} {args : Array Value} {W : World} (hp : plain P f = true) (H : Fx P f args W.heap fun v h' => v = .bool true ∧ ExtH W.heap h') :
    Calls P f args W fun e W' => e = .returned (.bool true) ∧ Below W.heap.size W W' := by
  rcases H with ⟨_, H⟩ | H
  · refine (H W rfl).mono ?_
    rintro e w' ⟨v, rfl, hs, rfl, hx⟩
    exact ⟨rfl, ⟨hs.os, hs.tape, hs.output, hx.size, hx.block⟩⟩
  · obtain ⟨v, w', h1, _⟩ := H W rfl
    unfold plain at hp
    split at hp
    · rename_i fn hfn
      simp only [Bool.and_eq_true, bne_iff_ne, ne_eq] at hp
      obtain ⟨body, hb⟩ := Option.isSome_iff_exists.1 hp.1
      simp [callFunc, hfn, hp.2, hb] at h1
    · cases hp
end Go.Proofs.YthigegabdbkhiaaGreatDoor.Vm
namespace Go.Proofs.YthigegabdbkhiaaGreatDoor
open Go Vm
open Go.ChangeShapes Go.WideShapes Go.ChangeAt Go.RowKit
set_option maxRecDepth 100000
section
variable {H : Type} {enc : TypeId × Value → H} {w : World} {base : Nat} {spare : Nat → Bool} {held : Bool}
/-- bytes out of numbers that fit -/
theorem bytes_of (zs : List Int) (h : ∀ z ∈ zs, (Lit.int .u8 z).wf = true) : ∃ l : List UInt8, l.length = zs.length ∧ zs = l.map (fun b => (b.toNat : Int)) := by
  refine ⟨zs.map (fun z => UInt8.ofNat z.toNat), by simp, ?_⟩
  rw [List.map_map]
  conv => lhs; rw [← List.map_id zs]
  apply List.map_congr_left
  intro z hz
  have := bounds_u8 (h z hz)
  simp
  omega
theorem open_arr {P : Program} {t e : TypeId} {n : Nat} {k : IntKind} {v : Value} {d : DataW H} {ps : List MemPlace} {r : Reach} {b0 : Nat} (ht : P.underlying t = some (.array n e)) (he : P.underlying e = some (.int k)) (hc : P.cellsOf e = 1) (hct : P.cellsOf t = n)
    (hval : Value.okWide P w r b0 t v) (hd : DataW.Trod enc P w base spare held t v d ps) : ∃ zs : List Int, zs.length = n ∧ v = .agg (zs.map (Value.int k)).toArray ∧ ∀ z ∈ zs, (Lit.int k z).wf = true := by
  obtain ⟨cs, rfl⟩ : ∃ cs, v = .agg cs := by
    simp only [Value.okWide, ht] at hval
    obtain ⟨cs, h1, _⟩ := hval
    exact ⟨cs, h1⟩
  obtain ⟨fuel, hf⟩ := hd
  obtain ⟨xs, m, _, _, hlen, hxs, hall⟩ := DataW.trod_array ht hf
  rw [hct] at hlen
  simp only [Value.cells] at hlen hall
  have hsz : cs.size = n := by simpa using hlen
  have key : ∀ i, i < n → ∃ z, cs.toList[i]? = some (.int k z) ∧ (Lit.int k z).wf = true := fun i hi => by
    have h1 := hall i hi
    rw [hc, Nat.mul_one, List.getElem?_eq_getElem (show i < xs.length by omega)] at h1
    obtain ⟨z, h2, _, h3⟩ := DataW.trod_int he h1
    refine ⟨z, ?_, h3⟩
    have h4 := congrArg (fun l => l[0]?) h2
    simpa [List.getElem?_take, List.getElem?_drop] using h4
  refine ⟨cs.toList.map (fun v => intOf v), by simp; omega, ?_, ?_⟩
  · congr 1
    apply Array.ext'
    refine List.ext_getElem? fun i => ?_
    by_cases hi : i < n
    · obtain ⟨z, h1, _⟩ := key i hi
      rw [List.map_map]
      simp only [List.getElem?_map, h1]
      rfl
    · rw [List.getElem?_eq_none (by simp; omega), List.getElem?_eq_none (by simp; omega)]
  · intro z hz
    obtain ⟨v, hv, rfl⟩ := List.mem_map.1 hz
    obtain ⟨i, hi, rfl⟩ := List.getElem_of_mem hv
    obtain ⟨z, h1, h2⟩ := key i (by omega)
    rw [List.getElem?_eq_getElem hi] at h1
    injection h1 with h1
    rw [h1]
    exact h2
theorem open_digest {v : Value} {d : DataW H} {ps : List MemPlace} {r : Reach} {b0 : Nat} (hval : Value.okWide Tryz.prog w r b0 74 v) (hd : DataW.Trod enc Tryz.prog w base spare held 74 v d ps) :
    ∃ l : List UInt8, l.length = 32 ∧ v = .agg (l.map u8v).toArray := by
  obtain ⟨zs, h1, h2, h3⟩ := open_arr (P := Tryz.prog) (n := 32) (e := 5) (k := .u8) rfl rfl (by kernel_rfl) (by kernel_rfl) hval hd
  obtain ⟨l, h4, h5⟩ := bytes_of zs h3
  refine ⟨l, by omega, ?_⟩
  rw [h2, h5, map_u8v]
/-- bytes that came in: they are read, in old blocks, and the row's bulk bounds them -/
theorem open_bytes {v : Value} {d : DataW H} {ps : List MemPlace} {r : Reach} {b0 : Nat} (hval : Value.okWide Tryz.prog w r b0 33 v) (hd : DataW.Trod enc Tryz.prog w base spare held 33 v d ps) :
    ∃ l : List UInt8, RD (fun b => b < w.heap.size) w.heap v l ∧ l.length ≤ Rows.uptoBulk d := by
  obtain ⟨a0, len, cap, rfl⟩ := okWide_slice (P := Tryz.prog) (e := 5) rfl hval
  have hspot : ∀ a, a0 = some a → a.spot = none := by
    rintro a rfl
    have := hval
    simp only [Value.okWide, show Tryz.prog.underlying 33 = some (.slice 5) from rfl, Cell.okWide, Cell.ok, World.has] at this
    exact this.2.2.2.1
  obtain ⟨fuel, hf⟩ := hd
  rcases open_ints (P := Tryz.prog) (e := 5) (k := .u8) rfl rfl (by kernel_rfl) hf with ⟨hcs, _⟩ | ⟨a, l, c, zs, hcs, _, hl, hm, hz, hx, hcell, hwz⟩
  · simp [Value.cells] at hcs
    obtain ⟨rfl, rfl, rfl⟩ := hcs
    exact ⟨[], RD.nil, Nat.zero_le _⟩
  · simp [Value.cells] at hcs
    obtain ⟨rfl, rfl, rfl⟩ := hcs
    have hs := hspot a rfl
    obtain ⟨b, o, spot⟩ := a
    simp only [] at hs
    subst hs
    have hzl : len ≤ zs.length := by rw [hz]; split <;> omega
    obtain ⟨m, h4, h5⟩ := bytes_of (zs.take len) (fun z hz => hwz z (List.mem_of_mem_take hz))
    have hlen : m.length = len := by rw [h4, List.length_take]; omega
    have hrd : rdN w.heap b o (m.map u8v) := fun j u hj => by
      have hjl : j < len := by have := (List.getElem?_eq_some_iff.1 hj).1; simpa [hlen] using this
      have := hcell j (by omega)
      rw [add_none, cell_eq_rd] at this
      rw [this]
      rw [map_u8v, ← h5, List.getElem?_map, List.getElem?_take, if_pos hjl] at hj
      rw [← hj, List.getElem?_eq_getElem (show j < zs.length by omega), List.getD_eq_getElem?_getD, List.getElem?_eq_getElem (show j < zs.length by omega)]
      rfl
    refine ⟨m, ⟨⟨by simp, .inr ⟨⟨b, o, none⟩, cap, by rw [hlen], by omega, hm, rdA_plain.2 hrd⟩⟩, fun hne c hc => ?_⟩, ?_⟩
    · rw [ob_slice] at hc
      subst hc
      cases m with
      | nil => exact absurd rfl hne
      | cons x m => exact rd_lt (hrd 0 (u8v x) rfl)
    · injection hx with hx
      subst hx
      have : ∀ ys : List Int, ys.length ≤ Rows.uptoBulkAll (lits (H := H) .u8 ys) := by
        intro ys
        induction ys with
        | nil => exact Nat.zero_le _
        | cons y ys ih =>
          show ys.length + 1 ≤ Rows.uptoBulk _ + Rows.uptoBulkAll _
          have : Rows.uptoBulk (DataW.lit (H := H) (.int .u8 y)) = 1 := by simp [Rows.uptoBulk]
          rw [this]
          have := ih
          simp only [lits] at this
          omega
      have h6 := this (zs.take len)
      simp only [Rows.uptoBulk]
      rw [List.length_take] at h6
      omega
end
end Go.Proofs.YthigegabdbkhiaaGreatDoor
namespace Go.Proofs.YthigegabdbkhiaaGreatDoor
open Go Vm
set_option maxRecDepth 100000
/-- the hash at p took the bytes m -/
def Took (h : Heap) (p : Nat) (v : Value) (m : List UInt8) : Prop := HashAt h p v (Sha.feed Sha.H0 m) (Sha.rest m) m.length
theorem Took.more {h h' : Heap} {p : Nat} {v : Value} {m : List UInt8} (T : Took h p v m) (x : ExtH h h') : Took h' p v m := HashAt.more T x
theorem Took.keep {S : Nat → Prop} {h h' : Heap} {p : Nat} {v : Value} {m : List UInt8} (T : Took h p v m) (c : Chg S h h') (hp : ¬ S p) (hv : ∀ b, ob v b → ¬ S b) : Took h' p v m := HashAt.keep T c hp hv
theorem took_new (h : Heap) : Fx Tryz.prog 107 #[] h fun v' h' => ∃ p, v' = .pointer (some ⟨p, 0, none⟩) ∧ h.size ≤ p ∧ Took h' p (.slice none 0 0) [] ∧ ExtH h h' := new_fn h
theorem took_write {D : Nat → Prop} {h : Heap} {p : Nat} {v x : Value} {m : List UInt8} {ms : List (List UInt8)} {pv : List Value} (T : Took h p v m) (hx : PD D h x ms pv)
    (hD : ∀ b, D b → b < h.size ∧ b ≠ p ∧ ¬ ob v b) (hms : m.length + ms.flatten.length ≤ 100000000000000) :
    Fx Tryz.prog 108 #[.pointer (some ⟨p, 0, none⟩), x] h fun u h' => u = .int .i64 0 ∧ ∃ v', Took h' p v' (m ++ ms.flatten) ∧ Chg (fun b => b = p ∨ ob v b) h h' ∧ ∀ b, ob v' b → ob v b ∨ h.size ≤ b := by
  refine (write_fn T hx hD (Sha.rest_lt m) (by omega) (by omega)).mono ?_
  rintro _ h' ⟨rfl, v', H', c', f'⟩
  refine ⟨rfl, v', ?_, c', f'⟩
  unfold Took
  rw [Sha.feed_app, List.length_append, ← Sha.rest_app]
  exact H'
theorem took_sum {h : Heap} {p : Nat} {v : Value} {m : List UInt8} (T : Took h p v m) (hm : m.length ≤ 100000000000000) :
    Fx Tryz.prog 109 #[.pointer (some ⟨p, 0, none⟩)] h fun u h' => u = .agg ((Sha.digest m).map u8v).toArray ∧ ExtH h h' :=
  sum_fn T (by have := Sha.rest_lt m; omega) (by omega)
theorem took_sum_q {h : Heap} {p : Nat} {v : Value} {m : List UInt8} (T : Took h p v m) (hm : m.length ≤ 100000000000000) :
    FxQ Tryz.prog 109 #[.pointer (some ⟨p, 0, none⟩)] h (.agg ((Sha.digest m).map u8v).toArray) := fun _ x => took_sum (T.more x) hm
theorem took_clone {h : Heap} {p : Nat} {v : Value} {m : List UInt8} (T : Took h p v m) :
    Fx Tryz.prog 151 #[.pointer (some ⟨p, 0, none⟩)] h fun u h' => ∃ q v', u = .pointer (some ⟨q, 0, none⟩) ∧ h.size ≤ q ∧ Took h' q v' m ∧ ExtH h h' ∧ ∀ b, ob v' b → h.size ≤ b :=
  hclone_fn T (by have := Sha.rest_lt m; omega)
/-- bytes of old blocks, in a world with other blocks behind -/
theorem RD.old {B : Nat} {h h' : Heap} {v : Value} {l : List UInt8} {D' : Nat → Prop} (R : RD (fun b => b < B) h v l) (_ : B ≤ h.size) (x : ∀ b, b < B → h'[b]? = h[b]?) (hs : h.size ≤ h'.size) (hD : ∀ b, b < B → D' b) : RD D' h' v l := by
  have c : Chg (fun b => B ≤ b) h h' := ⟨hs, fun b _ hn => x b (by omega)⟩
  have := R.keep c (fun b hb => by omega)
  exact ⟨this.1, fun hne b hb => hD b (this.2 hne b hb)⟩
theorem dig_same (xo yo : Operand) (l : List UInt8) (h : l.length = 32) (w : World) :
    (do eqGuard .eql 74 xo yo (.agg (l.map u8v).toArray) (.agg (l.map u8v).toArray); binOp .eql 74 (.agg (l.map u8v).toArray) (.agg (l.map u8v).toArray) : Sem Value).run Tryz.prog w = .ok (.bool true) w :=
  (dig_eq xo yo l l h h w).trans (by simp)
theorem dig_differ (xo yo : Operand) (l : List UInt8) (h : l.length = 32) (w : World) :
    (do eqGuard .neq 74 xo yo (.agg (l.map u8v).toArray) (.agg (l.map u8v).toArray); binOp .neq 74 (.agg (l.map u8v).toArray) (.agg (l.map u8v).toArray) : Sem Value).run Tryz.prog w = .ok (.bool false) w :=
  (dig_ne xo yo l l h h w).trans (by simp)
end Go.Proofs.YthigegabdbkhiaaGreatDoor
namespace Go.Proofs.YthigegabdbkhiaaGreatDoor
open Go Vm
set_option maxRecDepth 100000
/-- a state, as it is handed over -/
def stateC (s : Sha.S8) (b : Value) (n : Nat) : List Value := [u32v s.a, u32v s.b, u32v s.c, u32v s.d, u32v s.e, u32v s.f, u32v s.g, u32v s.h, b, .int .u64 (n : Int)]
end Go.Proofs.YthigegabdbkhiaaGreatDoor
namespace Go.Proofs.YthigegabdbkhiaaGreatDoor
open Go Vm
set_option maxRecDepth 100000
theorem words_eq (xo yo : Operand) (s t : Sha.S8) (w : World) :
    (do eqGuard .eql 251 xo yo (.agg (s.list.map u32v).toArray) (.agg (t.list.map u32v).toArray); binOp .eql 251 (.agg (s.list.map u32v).toArray) (.agg (t.list.map u32v).toArray) : Sem Value).run Tryz.prog w = .ok (.bool (decide (s = t))) w := by
  have e : ∀ s : Sha.S8, s.list.map u32v = (s.list.map (fun x => (x.toNat : Int))).map (Value.int .u32) := fun s => by rw [List.map_map]; rfl
  rw [e, e, run_eq_ints (P := Tryz.prog) (t := 251) (e := 239) (n := 8) rfl rfl (by kernel_rfl) (i := Tryz.prog.types[239]) rfl (by kernel_rfl) (by kernel_rfl) xo yo _ _ rfl rfl w]
  congr 3
  rw [eq_iff_iff]
  constructor
  · intro h
    cases s; cases t
    simp only [Sha.S8.list, List.map_cons, List.map_nil, List.cons.injEq, Int.natCast_inj, UInt32.toNat_inj, and_true] at h
    simp only [Sha.S8.mk.injEq]
    exact h
  · rintro rfl; rfl
end Go.Proofs.YthigegabdbkhiaaGreatDoor
namespace Go.Proofs.YthigegabdbkhiaaGreatDoor.Sha
def okc (c : UInt8) : Bool := c.toNat == 46 || (decide (97 ≤ c.toNat) && decide (c.toNat ≤ 122))
def isTag (s : List UInt8) : Bool := s.all okc && (decide (1 ≤ s.length) && decide (s.length ≤ 32))
theorem isTag_no {s : List UInt8} {i : Nat} (hi : i < s.length) (h : okc (s.getD i 0) = false) : isTag s = false := by
  have : s.all okc = false := by
    rw [List.all_eq_false]
    refine ⟨s.getD i 0, ?_, by rw [h]; exact Bool.false_ne_true⟩
    rw [List.getD_eq_getElem?_getD, List.getElem?_eq_getElem hi]
    exact List.getElem_mem hi
  unfold isTag
  rw [this]
  rfl
theorem isTag_yes {s : List UInt8} (h : ∀ i, i < s.length → okc (s.getD i 0) = true) : isTag s = (decide (1 ≤ s.length) && decide (s.length ≤ 32)) := by
  have : s.all okc = true := by
    rw [List.all_eq_true]
    intro x hx
    obtain ⟨i, hi, rfl⟩ := List.getElem_of_mem hx
    have := h i hi
    rwa [List.getD_eq_getElem?_getD, List.getElem?_eq_getElem hi] at this
  unfold isTag
  rw [this, Bool.true_and]
end Go.Proofs.YthigegabdbkhiaaGreatDoor.Sha
namespace Go.Proofs.YthigegabdbkhiaaGreatDoor
open Go Vm
set_option maxRecDepth 100000
theorem u8_ne_nat (c : UInt8) (n : Nat) : ((c.toNat : Int) != (n : Int)) = !decide (c.toNat = n) := by
  by_cases h : c.toNat = n
  · rw [h]; simp
  · have : (c.toNat : Int) ≠ (n : Int) := by omega
    simp [h, this]
theorem tagged_fn (s : List UInt8) (hs : s.length ≤ maxLen) : FxP Tryz.prog 105 #[.string (bs s)] (.bool (Sha.isTag s)) := by
  intro h
  refine fn_of 34 Tryz.func105 rfl (by kernel_rfl) rfl (by simp) ?_
  have hmax : maxLen < 9223372036854775808 := by decide
  refine cw_seq (cw_region rfl ?_)
  refine cw_seq (cw_seq (cw_region rfl ?_))
  conv => whnf
  refine cw_block ?_
  refine cw_loop (S := Nat) (fun t => [(0, .string (bs s)), (5, .int .i64 (s.length : Int)), (6, .int .i64 (t : Int))])
    (fun t h' => t ≤ s.length ∧ (∀ i, i < t → Sha.okc (s.getD i 0) = true) ∧ h' = h) (fun t => s.length - t) 0 ⟨rfl, rfl, rfl, trivial⟩ ⟨by omega, fun i hi => by omega, rfl⟩ ?_
  rintro t h0 ⟨ht, hok, e⟩
  subst h0
  refine cw_seq (cw_region rfl ?_)
  by_cases hlt : t < s.length
  · refine cw_seq (cw_yes rfl (by omega) (cw_skip ?_))
    refine cw_seq (cw_block (cw_seq (cw_region rfl ?_)))
    conv => whnf
    have hc := u8_lt (s.getD t 0)
    have hg : (bs s)[((t : Int)).toNat]? = some (s.getD t 0) := by
      rw [show ((t : Int)).toNat = t by omega]
      exact bs_get s t hlt
    generalize hcc : s.getD t 0 = c at *
    have next : Sha.okc c = true → ∀ i, i < t + 1 → Sha.okc (s.getD i 0) = true := fun h1 i hi => by
      by_cases hi' : i < t
      · exact hok i hi'
      · have : i = t := by omega
        rw [this, hcc]; exact h1
    refine cw_seq (cw_region rfl ?_)
    conv => whnf
    refine ⟨c, ⟨by omega, hg⟩, ?_⟩
    by_cases h46 : c.toNat = 46
    · refine ops_q (v := .bool false) rfl rfl (fun k hk => ?_) ?_
      · show k (.bool ((c.toNat : Int) != ((46 : Nat) : Int)))
        rw [u8_ne_nat, decide_eq_true h46]; exact hk
      conv => whnf
      refine cw_false rfl (cw_skip ?_)
      refine cw_region rfl ?_
      exact ⟨t + 1, ⟨rfl, rfl, slot_i64 _ _ (by omega) (by omega), trivial⟩, ⟨by omega, next (by simp [Sha.okc, h46]), rfl⟩, by omega⟩
    · refine ops_q (v := .bool true) rfl rfl (fun k hk => ?_) ?_
      · show k (.bool ((c.toNat : Int) != ((46 : Nat) : Int)))
        rw [u8_ne_nat, decide_eq_false h46]; exact hk
      conv => whnf
      refine ⟨c, ⟨by omega, hg⟩, ?_⟩
      by_cases h97 : c.toNat < 97
      · refine ops_g (v := .bool true) (b := true) rfl rfl rfl rfl (fun k hk => say true (decide_eq_true (by omega)) hk) ?_
        conv => whnf
        refine cw_true rfl (cw_seq (cw_region rfl ?_))
        have e : Sha.isTag s = false := Sha.isTag_no hlt (by rw [hcc]; simp [Sha.okc, h46]; omega)
        rw [e]
        exact cw_ret ⟨rfl, rfl⟩
      · refine ops_g (v := .bool false) (b := true) rfl rfl rfl rfl (fun k hk => say false (decide_eq_false (by omega)) hk) ?_
        conv => whnf
        refine ⟨c, ⟨by omega, hg⟩, ?_⟩
        conv => whnf
        by_cases h122 : 122 < c.toNat
        · refine cw_yes rfl (by omega) (cw_seq (cw_region rfl ?_))
          have e : Sha.isTag s = false := Sha.isTag_no hlt (by rw [hcc]; simp [Sha.okc, h46]; omega)
          rw [e]
          exact cw_ret ⟨rfl, rfl⟩
        · refine cw_no rfl (by omega) (cw_skip ?_)
          refine cw_region rfl ?_
          exact ⟨t + 1, ⟨rfl, rfl, slot_i64 _ _ (by omega) (by omega), trivial⟩, ⟨by omega, next (by simp [Sha.okc]; omega), rfl⟩, by omega⟩
  · refine cw_seq (cw_no rfl (by omega) (cw_exit ?_))
    have e := Sha.isTag_yes (s := s) (fun i hi => hok i (by omega))
    rw [e]
    refine cw_seq (cw_region rfl ?_)
    refine ops_q rfl rfl (fun k hk => hk) ?_
    refine ops_q rfl rfl (fun k hk => hk) ?_
    by_cases h1 : 1 ≤ s.length
    · refine ops_q (v := .bool true) rfl rfl (fun k hk => say true (decide_eq_true (by show (1 : Int) ≤ (s.length : Int); omega)) hk) ?_
      conv => whnf
      refine cw_ret ⟨?_, rfl⟩
      rw [decide_eq_true h1, Bool.true_and]
      show Value.bool (decide ((s.length : Int) ≤ 32)) = _
      congr 1
      simp only [decide_eq_decide]
      omega
    · refine ops_q (v := .bool false) rfl rfl (fun k hk => say false (decide_eq_false (by show ¬ (1 : Int) ≤ (s.length : Int); omega)) hk) ?_
      conv => whnf
      refine cw_ret ⟨?_, rfl⟩
      rw [decide_eq_false h1, Bool.false_and]
      rfl
theorem rtag_fn (s : List UInt8) (hs : s.length ≤ maxLen) : FxP Tryz.prog 116 #[.string (bs s)] (.bool (Sha.isTag s)) := by
  intro h
  refine fn_of 34 Tryz.func116 rfl (by kernel_rfl) rfl (by simp) ?_
  have hmax : maxLen < 9223372036854775808 := by decide
  refine cw_seq (cw_region rfl ?_)
  refine cw_seq (cw_seq (cw_region rfl ?_))
  conv => whnf
  refine cw_block ?_
  refine cw_loop (S := Nat) (fun t => [(0, .string (bs s)), (3, .int .i64 (t : Int))])
    (fun t h' => t ≤ s.length ∧ (∀ i, i < t → Sha.okc (s.getD i 0) = true) ∧ h' = h) (fun t => s.length - t) 0 ⟨rfl, rfl, trivial⟩ ⟨by omega, fun i hi => by omega, rfl⟩ ?_
  rintro t h0 ⟨ht, hok, e⟩
  subst h0
  refine cw_seq (cw_seq (cw_region rfl ?_))
  conv => whnf
  by_cases hlt : t < s.length
  · refine cw_yes rfl (by show (t : Int) < (s.length : Int); omega) (cw_skip ?_)
    have hc := u8_lt (s.getD t 0)
    have hg : (bs s)[((t : Int)).toNat]? = some (s.getD t 0) := by
      rw [show ((t : Int)).toNat = t by omega]
      exact bs_get s t hlt
    generalize hcc : s.getD t 0 = c at *
    have next : Sha.okc c = true → ∀ i, i < t + 1 → Sha.okc (s.getD i 0) = true := fun h1 i hi => by
      by_cases hi' : i < t
      · exact hok i hi'
      · have : i = t := by omega
        rw [this, hcc]; exact h1
    refine cw_seq (cw_block (cw_seq (cw_region rfl ?_)))
    conv => whnf
    refine ⟨c, ⟨by omega, hg⟩, ?_⟩
    by_cases h46 : c.toNat = 46
    · refine ops_q (v := .bool false) rfl rfl (fun k hk => ?_) ?_
      · show k (.bool ((c.toNat : Int) != ((46 : Nat) : Int)))
        rw [u8_ne_nat, decide_eq_true h46]; exact hk
      conv => whnf
      refine cw_false rfl (cw_skip ?_)
      refine cw_region rfl ?_
      exact ⟨t + 1, ⟨rfl, slot_i64 _ _ (by omega) (by omega), trivial⟩, ⟨by omega, next (by simp [Sha.okc, h46]), rfl⟩, by omega⟩
    · refine ops_q (v := .bool true) rfl rfl (fun k hk => ?_) ?_
      · show k (.bool ((c.toNat : Int) != ((46 : Nat) : Int)))
        rw [u8_ne_nat, decide_eq_false h46]; exact hk
      conv => whnf
      refine ⟨c, ⟨by omega, hg⟩, ?_⟩
      by_cases h97 : c.toNat < 97
      · refine ops_g (v := .bool true) (b := true) rfl rfl rfl rfl (fun k hk => say true (decide_eq_true (by omega)) hk) ?_
        conv => whnf
        refine cw_true rfl (cw_seq (cw_region rfl ?_))
        have e : Sha.isTag s = false := Sha.isTag_no hlt (by rw [hcc]; simp [Sha.okc, h46]; omega)
        rw [e]
        exact cw_ret ⟨rfl, rfl⟩
      · refine ops_g (v := .bool false) (b := true) rfl rfl rfl rfl (fun k hk => say false (decide_eq_false (by omega)) hk) ?_
        conv => whnf
        refine ⟨c, ⟨by omega, hg⟩, ?_⟩
        conv => whnf
        by_cases h122 : 122 < c.toNat
        · refine cw_yes rfl (by omega) (cw_seq (cw_region rfl ?_))
          have e : Sha.isTag s = false := Sha.isTag_no hlt (by rw [hcc]; simp [Sha.okc, h46]; omega)
          rw [e]
          exact cw_ret ⟨rfl, rfl⟩
        · refine cw_no rfl (by omega) (cw_skip ?_)
          refine cw_region rfl ?_
          exact ⟨t + 1, ⟨rfl, slot_i64 _ _ (by omega) (by omega), trivial⟩, ⟨by omega, next (by simp [Sha.okc]; omega), rfl⟩, by omega⟩
  · refine cw_no rfl (by show ¬ (t : Int) < (s.length : Int); omega) (cw_exit ?_)
    have e := Sha.isTag_yes (s := s) (fun i hi => hok i (by omega))
    rw [e]
    refine cw_seq (cw_region rfl ?_)
    refine ops_q rfl rfl (fun k hk => hk) ?_
    refine ops_q rfl rfl (fun k hk => hk) ?_
    by_cases h1 : 1 ≤ s.length
    · refine ops_q (v := .bool true) rfl rfl (fun k hk => say true (decide_eq_true (by show (1 : Int) ≤ (s.length : Int); omega)) hk) ?_
      conv => whnf
      refine cw_ret ⟨?_, rfl⟩
      rw [decide_eq_true h1, Bool.true_and]
      show Value.bool (decide ((s.length : Int) ≤ 32)) = _
      congr 1
      simp only [decide_eq_decide]
      omega
    · refine ops_q (v := .bool false) rfl rfl (fun k hk => say false (decide_eq_false (by show ¬ (1 : Int) ≤ (s.length : Int); omega)) hk) ?_
      conv => whnf
      refine cw_ret ⟨?_, rfl⟩
      rw [decide_eq_false h1, Bool.false_and]
      rfl
end Go.Proofs.YthigegabdbkhiaaGreatDoor
