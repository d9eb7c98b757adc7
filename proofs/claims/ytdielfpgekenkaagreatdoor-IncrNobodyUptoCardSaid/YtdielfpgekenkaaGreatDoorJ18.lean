/-
  The contracts of the document's rotr and Compress: the table is a package's.
  From a contract over a heap to the row's step: a call that comes back with true and only makes blocks.
  What the row says of an argument, as the contracts want it: an array of bytes, bytes that are read.
  A hash that took the bytes m, as the laws use it.
  The contract of package sha's Load where it takes the state.
  The contracts of package sha's State, of Write where it refuses, and of the document's Same.
  The contracts of the document's New, Copy, taken, joined.
-/
import Derived.Test.YtdielfpgekenkaaGreatDoorJ5
import Derived.Test.YtdielfpgekenkaaGreatDoorJ6
import Derived.WalkKit
import Derived.ProofKit
import Derived.OpenShut
import Derived.ShutString
import Derived.ChangeOld
import Derived.Below
import Derived.Test.YtdielfpgekenkaaGreatDoorRows
import Derived.Test.YtdielfpgekenkaaGreatDoorJ16
namespace Go.Proofs.YtdielfpgekenkaaGreatDoor
open Go Vm
set_option maxRecDepth 100000
theorem rotr_fn (x : UInt32) (n : Nat) (h1 : 1 ≤ n) (h2 : n ≤ 31) : FxP Tryz.prog 574 #[u32v x, .int .u64 (n : Int)] (u32v (Sha.rotr x n)) := by
  intro h
  refine fn_of 13 Tryz.func574 rfl (by kernel_rfl) rfl (by simp) ?_
  refine cw_seq (cw_region rfl ?_)
  refine cw_seq (cw_region rfl ?_)
  conv => whnf
  refine ⟨by omega, ?_⟩
  conv => whnf
  have e : IntKind.u64.wrap (32 - (n : Int)) = ((32 - n : Nat) : Int) := by simp [IntKind.wrap, IntKind.bits, IntKind.signed]; omega
  refine ⟨by show 0 ≤ IntKind.u64.wrap (32 - (n : Int)); omega, ?_⟩
  conv => whnf
  refine cw_ret ⟨?_, rfl⟩
  show Value.int .u32 (bits .or .u32 ((x.toNat : Int) / 2 ^ min ((n : Int)).toNat 32) (IntKind.u32.wrap ((x.toNat : Int) * 2 ^ min (IntKind.u64.wrap (32 - (n : Int))).toNat 32))) = _
  rw [e, show min ((n : Int)).toNat 32 = n by omega, show min (((32 - n : Nat) : Int)).toNat 32 = 32 - n by omega]
  have hr := rot_eq x (32 - n) (by omega) (by omega)
  rw [show 32 - (32 - n) = n by omega] at hr
  refine congrArg (Value.int .u32) (Eq.trans ?_ hr)
  have e1 : IntKind.u32.wrap ((x.toNat : Int) * 2 ^ (32 - n)) = ((x.toNat * 2 ^ (32 - n) % 4294967296 : Nat) : Int) := by
    rw [IntKind.wrap_u32]; simp
  have e2 : (x.toNat : Int) / 2 ^ n = ((x.toNat / 2 ^ n : Nat) : Int) := by simp
  have b1 : x.toNat * 2 ^ (32 - n) % 4294967296 < 4294967296 := Nat.mod_lt _ (by decide)
  have b2 : x.toNat / 2 ^ n < 4294967296 := Nat.lt_of_le_of_lt (Nat.div_le_self _ _) (u32_lt x)
  rw [e1, e2, u32_or_nat _ _ b1 b2, u32_or_nat _ _ b2 b1, Nat.or_comm]
/-- the document's table lies where it was laid -/
def Tab (h : Heap) : Prop := rdN h 1 0 (Sha.K.map u32v)
theorem Tab.more {h h' : Heap} (T : Tab h) (x : ExtH h h') : Tab h' := (x.chg (S := fun _ => False)).rdN T (fun e => e)
theorem Tab.lt {h : Heap} (T : Tab h) : 1 < h.size := rd_lt (T 0 _ rfl)
/-- the blocks of a call of the document's Compress -/
structure RC (h0 : Heap) (hb bb rb wb : Nat) (s : Sha.S8) (l : List UInt8) (wl : List Value) (h : Heap) : Prop where
  lb : h0.size ≤ hb ∧ h0.size ≤ bb ∧ h0.size ≤ rb ∧ h0.size ≤ wb ∧ hb < bb ∧ bb < rb ∧ rb < wb
  ext : ExtH h0 h
  H : Blk h hb (s.list.map u32v) 598
  B : Blk h bb (l.map u8v) 715
  R : Blk h rb (List.replicate 8 z32) 598
  W : Blk h wb wl 770
theorem RC.more {h0 : Heap} {hb bb rb wb : Nat} {s : Sha.S8} {l : List UInt8} {wl : List Value} {h h' : Heap} (c : RC h0 hb bb rb wb s l wl h) (e : ExtH h h') : RC h0 hb bb rb wb s l wl h' :=
  ⟨c.lb, c.ext.trans e, e.blk c.H, e.blk c.B, e.blk c.R, e.blk c.W⟩
theorem RC.wrote {h0 : Heap} {hb bb rb wb : Nat} {s : Sha.S8} {l : List UInt8} {wl wl' : List Value} {h h' : Heap} {t : TypeId} (c : RC h0 hb bb rb wb s l wl h) (e : Wrote h h' wb wl' t) (ht : t = 770) : RC h0 hb bb rb wb s l wl' h' := by
  subst ht
  have := c.lb
  exact ⟨c.lb, ⟨by rw [e.size]; exact c.ext.size, fun b hb' => by rw [e.block b (by omega)]; exact c.ext.block b hb'⟩, e.blk c.H (by omega), e.blk c.B (by omega), e.blk c.R (by omega), e.new⟩
structure RS (h0 : Heap) (hb bb rb wb sb : Nat) (s : Sha.S8) (l : List UInt8) (wl sl : List Value) (h : Heap) : Prop where
  c : RC h0 hb bb rb wb s l wl h
  lt : wb < sb
  S : Blk h sb sl 598
theorem RS.more {h0 : Heap} {hb bb rb wb sb : Nat} {s : Sha.S8} {l : List UInt8} {wl sl : List Value} {h h' : Heap} (c : RS h0 hb bb rb wb sb s l wl sl h) (e : ExtH h h') : RS h0 hb bb rb wb sb s l wl sl h' :=
  ⟨c.c.more e, c.lt, e.blk c.S⟩
theorem RS.wrote {h0 : Heap} {hb bb rb wb sb : Nat} {s : Sha.S8} {l : List UInt8} {wl sl sl' : List Value} {h h' : Heap} {t : TypeId} (c : RS h0 hb bb rb wb sb s l wl sl h) (e : Wrote h h' sb sl' t) (ht : t = 598) : RS h0 hb bb rb wb sb s l wl sl' h' := by
  subst ht
  have := c.c.lb
  have := c.lt
  exact ⟨⟨c.c.lb, ⟨by rw [e.size]; exact c.c.ext.size, fun b hb' => by rw [e.block b (by omega)]; exact c.c.ext.block b hb'⟩, e.blk c.c.H (by omega), e.blk c.c.B (by omega), e.blk c.c.R (by omega), e.blk c.c.W (by omega)⟩, c.lt, e.new⟩
theorem next_eq' (w : List UInt32) (t : Nat) (i : Int) (hi : i = ((Sha.s1 (w.getD (t - 2) 0) + w.getD (t - 7) 0 + Sha.s0 (w.getD (t - 15) 0) + w.getD (t - 16) 0).toNat : Int)) : Value.int .u32 i = u32v (Sha.next w t) := by
  rw [hi]
  unfold Sha.next u32v
  congr 3
  ac_rfl
theorem t1_eq' (s : Sha.S8) (k w : UInt32) : IntKind.u32.wrap (IntKind.u32.wrap (IntKind.u32.wrap (IntKind.u32.wrap ((s.h.toNat : Int) + bits .xor .u32 (bits .xor .u32 ((Sha.rotr s.e 6).toNat : Int) ((Sha.rotr s.e 11).toNat : Int)) ((Sha.rotr s.e 25).toNat : Int)) +
    bits .xor .u32 (bits .and .u32 (s.e.toNat : Int) (s.f.toNat : Int)) (bits .and .u32 (bits .xor .u32 4294967295 (s.e.toNat : Int)) (s.g.toNat : Int))) + (k.toNat : Int)) + (w.toNat : Int)) = ((Sha.t1 s k w).toNat : Int) := by
  rw [S1_eq]
  exact t1_eq s k w
theorem t2_eq' (s : Sha.S8) : IntKind.u32.wrap (bits .xor .u32 (bits .xor .u32 ((Sha.rotr s.a 2).toNat : Int) ((Sha.rotr s.a 13).toNat : Int)) ((Sha.rotr s.a 22).toNat : Int) +
    bits .xor .u32 (bits .xor .u32 (bits .and .u32 (s.a.toNat : Int) (s.b.toNat : Int)) (bits .and .u32 (s.a.toNat : Int) (s.c.toNat : Int))) (bits .and .u32 (s.b.toNat : Int) (s.c.toNat : Int))) = ((Sha.t2 s).toNat : Int) := by
  rw [S0_eq]
  exact t2_eq s
set_option maxHeartbeats 1000000 in
theorem rcompress_fn (s : Sha.S8) (l : List UInt8) (hl : l.length = 64) (h0 : Heap) (T : Tab h0) :
    Fx Tryz.prog 488 #[.agg (s.list.map u32v).toArray, .agg (l.map u8v).toArray] h0 fun v h' => v = .agg ((Sha.compress s l).list.map u32v).toArray ∧ ExtH h0 h' := by
  refine fn_of 192 Tryz.func488 rfl (by kernel_rfl) rfl (by simp) ?_
  refine cw_seq (cw_region rfl ?_)
  conv => whnf
  intro h1 n1
  conv => whnf
  intro h2 n2
  conv => whnf
  intro h3 n3
  refine cw_seq (cw_region rfl ?_)
  conv => whnf
  intro h7 n7
  have z1 := n1.size; have z2 := n2.size; have z3 := n3.size; have z7 := n7.size
  have c : RC h0 h0.size h1.size h2.size h3.size s l (wcells l 0) h7 := by
    refine ⟨⟨by omega, by omega, by omega, by omega, by omega, by omega, by omega⟩, ?_, ?_, ?_, ?_, ?_⟩
    · exact ((n1.ext.trans n2.ext).trans (n3.ext.trans n7.ext))
    · exact n7.ext.blk (n3.ext.blk (n2.ext.blk n1.blk))
    · exact n7.ext.blk (n3.ext.blk n2.blk)
    · exact n7.ext.blk n3.blk
    · exact n7.blk
  generalize h1.size = bb at *; generalize h2.size = rb at *; generalize h3.size = wb at *
  generalize hhb : h0.size = hb at *
  clear n1 n2 n3 n7 z1 z2 z3 z7
  -- the sixteen words of the block
  refine cw_seq (cw_seq (cw_region rfl ?_))
  refine cw_block ?_
  refine cw_loop (S := Nat) (fun t => [(2, .pointer (some ⟨hb, 0, none⟩)), (3, .pointer (some ⟨bb, 0, none⟩)), (4, .pointer (some ⟨rb, 0, none⟩)), (5, .pointer (some ⟨wb, 0, none⟩)), (6, .int .i64 (t : Int))])
    (fun t h => t ≤ 16 ∧ RC h0 hb bb rb wb s l (wcells l t) h) (fun t => 16 - t) 0 ⟨rfl, rfl, rfl, rfl, rfl, trivial⟩ ⟨by omega, c⟩ ?_
  clear c h1 h2 h3 h7
  rintro t h ⟨ht, c⟩
  refine cw_seq (cw_seq (cw_region rfl ?_))
  conv => whnf
  by_cases hlt : t < 16
  · refine cw_yes rfl (by omega) (cw_skip ?_)
    refine cw_seq (cw_block ?_)
    refine cw_drawn (by kernel_rfl) 31 (fun _ => false) (List.range 31) (by kernel_rfl) rfl ?_
    conv => whnf
    have rB : ∀ (i : Int) (n : Nat), i = n → n < 64 → rd h ⟨bb, 0 + i.toNat, none⟩ = some (u8v (l.getD n 0)) := fun i n e hn => by
      subst e
      refine c.B.rd ?_
      rw [show 0 + ((n : Int)).toNat = n by omega]
      exact map_get u8v l n 0 (by omega)
    have e0 := i64_eq (4 * (t : Int)) (4 * t) (by omega) (by omega)
    have e1 := i64_eq (IntKind.i64.wrap (4 * (t : Int)) + 1) (4 * t + 1) (by omega) (by omega)
    have e2 := i64_eq (IntKind.i64.wrap (4 * (t : Int)) + 2) (4 * t + 2) (by omega) (by omega)
    have e3 := i64_eq (IntKind.i64.wrap (4 * (t : Int)) + 3) (4 * t + 3) (by omega) (by omega)
    refine ⟨⟨by omega, by omega⟩, ?_⟩
    conv => whnf
    refine ⟨_, rB _ _ e0 (by omega), ?_⟩
    conv => whnf
    refine ⟨by decide, ?_⟩
    conv => whnf
    refine ⟨⟨by omega, by omega⟩, ?_⟩
    conv => whnf
    refine ⟨_, rB _ _ e1 (by omega), ?_⟩
    conv => whnf
    refine ⟨by decide, ?_⟩
    conv => whnf
    refine ⟨⟨by omega, by omega⟩, ?_⟩
    conv => whnf
    refine ⟨_, rB _ _ e2 (by omega), ?_⟩
    conv => whnf
    refine ⟨by decide, ?_⟩
    conv => whnf
    refine ⟨⟨by omega, by omega⟩, ?_⟩
    conv => whnf
    refine ⟨_, rB _ _ e3 (by omega), ?_⟩
    conv => whnf
    refine ⟨⟨by omega, by omega⟩, ?_⟩
    conv => whnf
    intro h' x'
    conv => whnf
    refine ⟨_, _, (c.more x').W, by simp [wcells, Sha.words_length]; omega, ?_⟩
    intro h'' w
    have w := w.cast (l' := wcells l (t + 1)) (by
      rw [← wcells_set l t hlt]
      exact congr (congrArg (List.set (wcells l t)) (show 0 + ((t : Int)).toNat = t by omega)) (congrArg (Value.int .u32) (be_eq _ _ _ _)))
    refine cw_region rfl ?_
    exact ⟨t + 1, ⟨rfl, rfl, rfl, rfl, slot_i64 _ _ (by omega) (by omega), trivial⟩, ⟨by omega, (c.more x').wrote w rfl⟩, by omega⟩
  · refine cw_no rfl (by omega) (cw_exit ?_)
    have t16 : t = 16 := by omega
    subst t16
    -- the forty-eight words behind them
    refine cw_seq (cw_seq (cw_region rfl ?_))
    refine cw_block ?_
    refine cw_loop (S := Nat) (fun t => [(2, .pointer (some ⟨hb, 0, none⟩)), (4, .pointer (some ⟨rb, 0, none⟩)), (5, .pointer (some ⟨wb, 0, none⟩)), (7, .int .i64 ((16 + t : Nat) : Int))])
      (fun t h => t ≤ 48 ∧ RC h0 hb bb rb wb s l (vcells l t) h) (fun t => 48 - t) 0 ⟨rfl, rfl, rfl, rfl, trivial⟩ ⟨by omega, vcells_zero l ▸ c⟩ ?_
    clear c h hlt ht
    rintro t h ⟨ht, c⟩
    refine cw_seq (cw_seq (cw_region rfl ?_))
    conv => whnf
    by_cases hlt : t < 48
    · refine cw_yes rfl (by omega) (cw_skip ?_)
      have rW : ∀ (h : Heap), RC h0 hb bb rb wb s l (vcells l t) h → ∀ (i : Int) (n : Nat), i = n → n < 16 + t → rd h ⟨wb, 0 + i.toNat, none⟩ = some (u32v ((Sha.ext (Sha.words l 16) t).getD n 0)) := fun h c i n e hn => by
        subst e
        refine c.W.rd ?_
        rw [show 0 + ((n : Int)).toNat = n by omega]
        unfold vcells
        rw [List.getElem?_append_left (by simp [Sha.ext_length, Sha.words_length]; omega)]
        exact map_get u32v _ n 0 (by simp [Sha.ext_length, Sha.words_length]; omega)
      have i15 := i64_eq (((16 + t : Nat) : Int) - 15) (16 + t - 15) (by omega) (by omega)
      have i2 := i64_eq (((16 + t : Nat) : Int) - 2) (16 + t - 2) (by omega) (by omega)
      have i16 := i64_eq (((16 + t : Nat) : Int) - 16) (16 + t - 16) (by omega) (by omega)
      have i7 := i64_eq (((16 + t : Nat) : Int) - 7) (16 + t - 7) (by omega) (by omega)
      refine cw_seq (cw_block (cw_seq ?_))
      refine cw_drawn (by kernel_rfl) 9 (fun _ => false) (List.range 9) (by kernel_rfl) rfl ?_
      conv => whnf
      refine ⟨⟨by omega, by omega⟩, ?_⟩
      conv => whnf
      refine ⟨_, rW h c _ _ i15 (by omega), ?_⟩
      conv => whnf
      refine ⟨⟨by omega, by omega⟩, ?_⟩
      conv => whnf
      refine ⟨_, rW h c _ _ i2 (by omega), ?_⟩
      conv => whnf
      intro h1 e1
      replace c := c.more e1
      refine cw_seq (cw_region rfl ?_)
      conv => whnf
      refine ⟨_, rfl, _, rotr_fn _ 7 (by omega) (by omega) _, ?_⟩
      rintro _ _ ⟨rfl, rfl⟩
      conv => whnf
      refine ⟨_, rfl, _, rotr_fn _ 18 (by omega) (by omega) _, ?_⟩
      rintro _ _ ⟨rfl, rfl⟩
      conv => whnf
      refine ⟨by decide, ?_⟩
      refine cw_keep [(2, .pointer (some ⟨hb, 0, none⟩)), (4, .pointer (some ⟨rb, 0, none⟩)), (5, .pointer (some ⟨wb, 0, none⟩)), (7, .int .i64 ((16 + t : Nat) : Int)),
        (9, u32v ((Sha.ext (Sha.words l 16) t).getD (16 + t - 2) 0)), (10, u32v (Sha.s0 ((Sha.ext (Sha.words l 16) t).getD (16 + t - 15) 0)))]
        ⟨rfl, rfl, rfl, rfl, rfl, congrArg (fun i => some (Value.int .u32 i)) (s0_eq _), trivial⟩ ?_
      refine cw_seq (cw_region rfl ?_)
      conv => whnf
      refine ⟨_, rfl, _, rotr_fn _ 17 (by omega) (by omega) _, ?_⟩
      rintro _ _ ⟨rfl, rfl⟩
      conv => whnf
      refine ⟨_, rfl, _, rotr_fn _ 19 (by omega) (by omega) _, ?_⟩
      rintro _ _ ⟨rfl, rfl⟩
      conv => whnf
      refine ⟨by decide, ?_⟩
      refine cw_keep [(2, .pointer (some ⟨hb, 0, none⟩)), (4, .pointer (some ⟨rb, 0, none⟩)), (5, .pointer (some ⟨wb, 0, none⟩)), (7, .int .i64 ((16 + t : Nat) : Int)),
        (10, u32v (Sha.s0 ((Sha.ext (Sha.words l 16) t).getD (16 + t - 15) 0))), (11, u32v (Sha.s1 ((Sha.ext (Sha.words l 16) t).getD (16 + t - 2) 0)))]
        ⟨rfl, rfl, rfl, rfl, rfl, congrArg (fun i => some (Value.int .u32 i)) (s1_eq _), trivial⟩ ?_
      refine cw_drawn (by kernel_rfl) 15 (fun _ => false) (List.range 15) (by kernel_rfl) rfl ?_
      conv => whnf
      refine ⟨⟨by omega, by omega⟩, ?_⟩
      conv => whnf
      refine ⟨_, rW _ c _ _ i7 (by omega), ?_⟩
      conv => whnf
      refine ⟨⟨by omega, by omega⟩, ?_⟩
      conv => whnf
      refine ⟨_, rW _ c _ _ i16 (by omega), ?_⟩
      conv => whnf
      refine ⟨⟨by omega, by omega⟩, ?_⟩
      conv => whnf
      intro h2 e2
      conv => whnf
      refine ⟨_, _, (c.more e2).W, by simp [vcells, Sha.ext_length, Sha.words_length]; omega, ?_⟩
      intro h3 w
      have w := w.cast (l' := vcells l (t + 1)) (by
        rw [← vcells_set l t hlt]
        exact congr (congrArg (List.set (vcells l t)) (show 0 + (((16 + t : Nat) : Int)).toNat = 16 + t by omega)) (next_eq' _ _ _ (next_eq _ _ _ _)))
      refine cw_region rfl ?_
      exact ⟨t + 1, ⟨rfl, rfl, rfl, slot_i64 _ _ (by omega) (by omega), trivial⟩, ⟨by omega, (c.more e2).wrote w rfl⟩, by omega⟩
    · refine cw_no rfl (by omega) (cw_exit ?_)
      have t48 : t = 48 := by omega
      subst t48
      rw [wcells_sched] at c
      -- the state
      refine cw_seq (cw_region rfl ?_)
      conv => whnf
      refine ⟨_, by rfl, c.H.all, ?_⟩
      conv => whnf
      intro h1 n1
      conv => whnf
      refine ⟨_, _, n1.blk, ⟨Nat.le_refl 8, by rfl, by simp [u32v, Value.oneCell', Sha.S8.list]⟩, ?_⟩
      intro h2 w2
      replace c : RS h0 hb bb rb wb h.size s l ((Sha.sched l).map u32v) ((Sha.rounds (Sha.sched l) s 0).list.map u32v) h2 := by
        have lb := c.lb
        have l1 := c.H.lt; have l2 := c.B.lt; have l3 := c.R.lt; have l5 := c.W.lt
        have k := c.more n1.ext
        exact ⟨⟨c.lb, ⟨by rw [w2.size]; exact k.ext.size, fun b hb' => by rw [w2.block b (by have := c.ext.size; omega)]; exact k.ext.block b hb'⟩, w2.blk k.H (by omega), w2.blk k.B (by omega), w2.blk k.R (by omega), w2.blk k.W (by omega)⟩, l5, w2.new⟩
      generalize h.size = sb at *
      clear n1 w2 ht hlt h1
      refine cw_seq (cw_seq (cw_region rfl ?_))
      refine cw_block ?_
      refine cw_loop (S := Nat) (fun t => [(2, .pointer (some ⟨hb, 0, none⟩)), (4, .pointer (some ⟨rb, 0, none⟩)), (5, .pointer (some ⟨wb, 0, none⟩)), (12, .pointer (some ⟨sb, 0, none⟩)), (13, .int .i64 (t : Int))])
        (fun t h => t ≤ 64 ∧ RS h0 hb bb rb wb sb s l ((Sha.sched l).map u32v) ((Sha.rounds (Sha.sched l) s t).list.map u32v) h) (fun t => 64 - t) 0 ⟨rfl, rfl, rfl, rfl, rfl, trivial⟩ ⟨by omega, c⟩ ?_
      clear c h h2
      rintro t h ⟨ht, c⟩
      refine cw_seq (cw_seq (cw_region rfl ?_))
      conv => whnf
      by_cases hlt : t < 64
      · refine cw_yes rfl (by omega) (cw_skip ?_)
        generalize hst : Sha.rounds (Sha.sched l) s t = st at *
        have rS : ∀ (h : Heap), RS h0 hb bb rb wb sb s l ((Sha.sched l).map u32v) (st.list.map u32v) h → ∀ (n : Nat) (v : Value), (st.list.map u32v)[n]? = some v → rd h ⟨sb, n, none⟩ = some v := fun h c n v hv => c.S.rd hv
        refine cw_seq (cw_block (cw_seq ?_))
        refine cw_drawn (by kernel_rfl) 5 (fun _ => false) (List.range 5) (by kernel_rfl) rfl ?_
        conv => whnf
        refine ⟨⟨by decide, by decide⟩, ?_⟩
        conv => whnf
        refine ⟨_, rS h c 0 (u32v st.a) rfl, ?_⟩
        conv => whnf
        refine ⟨⟨by decide, by decide⟩, ?_⟩
        conv => whnf
        refine ⟨_, rS h c 4 (u32v st.e) rfl, ?_⟩
        conv => whnf
        intro h1 e1
        replace c := c.more e1
        have T1 := T.more c.c.ext
        refine cw_seq ?_
        refine cw_drawn (by kernel_rfl) 30 (fun _ => false) (List.range 30) (by kernel_rfl) rfl ?_
        conv => whnf
        refine ⟨⟨by decide, by decide⟩, ?_⟩
        conv => whnf
        refine ⟨_, rS _ c 7 (u32v st.h) rfl, ?_⟩
        conv => whnf
        refine ⟨_, rfl, _, (rotr_fn st.e 6 (by omega) (by omega)).q _, ?_⟩
        conv => whnf
        refine ⟨_, rfl, _, (rotr_fn st.e 11 (by omega) (by omega)).q _, ?_⟩
        conv => whnf
        refine ⟨_, rfl, _, (rotr_fn st.e 25 (by omega) (by omega)).q _, ?_⟩
        conv => whnf
        refine ⟨⟨by decide, by decide⟩, ?_⟩
        conv => whnf
        refine ⟨_, rS _ c 5 (u32v st.f) rfl, ?_⟩
        conv => whnf
        refine ⟨⟨by decide, by decide⟩, ?_⟩
        conv => whnf
        refine ⟨_, rS _ c 6 (u32v st.g) rfl, ?_⟩
        conv => whnf
        refine ⟨⟨by omega, by omega⟩, ?_⟩
        conv => whnf
        refine ⟨u32v (Sha.K.getD t 0), by
          have := T1 t _ (map_get u32v Sha.K t 0 hlt)
          rwa [show 0 + t = 0 + ((t : Int)).toNat by omega] at this, ?_⟩
        conv => whnf
        refine ⟨⟨by omega, by omega⟩, ?_⟩
        conv => whnf
        refine ⟨u32v ((Sha.sched l).getD t 0), c.c.W.rd (by rw [show 0 + ((t : Int)).toNat = t by omega]; exact map_get u32v _ t 0 (by rw [Sha.sched_length]; exact hlt)), ?_⟩
        conv => whnf
        intro h2 e2
        replace c := c.more e2
        refine cw_keep [(2, .pointer (some ⟨hb, 0, none⟩)), (4, .pointer (some ⟨rb, 0, none⟩)), (5, .pointer (some ⟨wb, 0, none⟩)), (12, .pointer (some ⟨sb, 0, none⟩)), (13, .int .i64 (t : Int)),
          (14, u32v st.a), (15, u32v st.e), (16, u32v (Sha.t1 st (Sha.K.getD t 0) ((Sha.sched l).getD t 0)))]
          ⟨rfl, rfl, rfl, rfl, rfl, rfl, rfl, congrArg (fun i => some (Value.int .u32 i)) (t1_eq' st _ _), trivial⟩ ?_
        refine cw_seq ?_
        refine cw_drawn (by kernel_rfl) 24 (fun _ => false) (List.range 24) (by kernel_rfl) rfl ?_
        conv => whnf
        refine ⟨_, rfl, _, (rotr_fn st.a 2 (by omega) (by omega)).q _, ?_⟩
        conv => whnf
        refine ⟨_, rfl, _, (rotr_fn st.a 13 (by omega) (by omega)).q _, ?_⟩
        conv => whnf
        refine ⟨_, rfl, _, (rotr_fn st.a 22 (by omega) (by omega)).q _, ?_⟩
        conv => whnf
        refine ⟨⟨by decide, by decide⟩, ?_⟩
        conv => whnf
        refine ⟨_, rS _ c 1 (u32v st.b) rfl, ?_⟩
        conv => whnf
        refine ⟨⟨by decide, by decide⟩, ?_⟩
        conv => whnf
        refine ⟨_, rS _ c 2 (u32v st.c) rfl, ?_⟩
        conv => whnf
        refine ⟨⟨by decide, by decide⟩, ?_⟩
        conv => whnf
        refine ⟨_, rS _ c 1 (u32v st.b) rfl, ?_⟩
        conv => whnf
        refine ⟨⟨by decide, by decide⟩, ?_⟩
        conv => whnf
        refine ⟨_, rS _ c 2 (u32v st.c) rfl, ?_⟩
        conv => whnf
        intro h3 e3
        replace c := c.more e3
        refine cw_keep [(2, .pointer (some ⟨hb, 0, none⟩)), (4, .pointer (some ⟨rb, 0, none⟩)), (5, .pointer (some ⟨wb, 0, none⟩)), (12, .pointer (some ⟨sb, 0, none⟩)), (13, .int .i64 (t : Int)),
          (14, u32v st.a), (15, u32v st.e), (16, u32v (Sha.t1 st (Sha.K.getD t 0) ((Sha.sched l).getD t 0))), (17, u32v (Sha.t2 st))]
          ⟨rfl, rfl, rfl, rfl, rfl, rfl, rfl, rfl, congrArg (fun i => some (Value.int .u32 i)) (t2_eq' st), trivial⟩ ?_
        refine cw_region rfl ?_
        conv => whnf
        refine ⟨⟨by decide, by decide⟩, ?_⟩
        conv => whnf
        refine ⟨_, rS _ c 1 (u32v st.b) rfl, ?_⟩
        conv => whnf
        refine ⟨⟨by decide, by decide⟩, ?_⟩
        conv => whnf
        refine ⟨_, rS _ c 2 (u32v st.c) rfl, ?_⟩
        conv => whnf
        refine ⟨⟨by decide, by decide⟩, ?_⟩
        conv => whnf
        refine ⟨_, rS _ c 3 (u32v st.d) rfl, ?_⟩
        conv => whnf
        refine ⟨⟨by decide, by decide⟩, ?_⟩
        conv => whnf
        refine ⟨_, rS _ c 5 (u32v st.f) rfl, ?_⟩
        conv => whnf
        refine ⟨⟨by decide, by decide⟩, ?_⟩
        conv => whnf
        refine ⟨_, rS _ c 6 (u32v st.g) rfl, ?_⟩
        conv => whnf
        generalize hk : Sha.K.getD t 0 = kt at *
        generalize hw : (Sha.sched l).getD t 0 = wt at *
        refine ⟨_, rfl, #[.int .u32 (IntKind.u32.wrap (((Sha.t1 st kt wt).toNat : Int) + ((Sha.t2 st).toNat : Int))), u32v st.a, u32v st.b, u32v st.c, .int .u32 (IntKind.u32.wrap ((st.d.toNat : Int) + ((Sha.t1 st kt wt).toNat : Int))), u32v st.e, u32v st.f, u32v st.g], fun w => by kernel_rfl, ?_⟩
        rw [wrap_add32, wrap_add32]
        conv => whnf
        refine ⟨_, _, c.S, ⟨Nat.le_refl 8, by rfl, by simp [u32v, Value.oneCell']⟩, ?_⟩
        intro h4 w4
        have w4 := w4.cast (l' := (Sha.rounds (Sha.sched l) s (t + 1)).list.map u32v) (by
          simp only [Sha.rounds, hst, hk, hw]
          rfl)
        refine cw_region rfl ?_
        exact ⟨t + 1, ⟨rfl, rfl, rfl, rfl, slot_i64 _ _ (by omega) (by omega), trivial⟩, ⟨by omega, c.wrote w4 rfl⟩, by omega⟩
      · refine cw_no rfl (by omega) (cw_exit ?_)
        have t64 : t = 64 := by omega
        subst t64
        generalize hr : Sha.rounds (Sha.sched l) s 64 = r at *
        -- the sum
        refine cw_seq (cw_seq (cw_region rfl ?_))
        refine cw_block ?_
        refine cw_loop (S := Nat) (fun t => [(2, .pointer (some ⟨hb, 0, none⟩)), (4, .pointer (some ⟨rb, 0, none⟩)), (12, .pointer (some ⟨sb, 0, none⟩)), (18, .int .i64 (t : Int))])
          (fun t h => t ≤ 8 ∧ RS h0 hb bb rb wb sb s l ((Sha.sched l).map u32v) (acells r s t) h) (fun t => 8 - t) 0 ⟨rfl, rfl, rfl, rfl, trivial⟩ ⟨by omega, c⟩ ?_
        clear c h ht hlt
        rintro t h ⟨ht, c⟩
        refine cw_seq (cw_seq (cw_region rfl ?_))
        conv => whnf
        by_cases hlt : t < 8
        · refine cw_yes rfl (by omega) (cw_skip ?_)
          refine cw_seq (cw_block ?_)
          refine cw_drawn (by kernel_rfl) 9 (fun _ => false) (List.range 9) (by kernel_rfl) rfl ?_
          conv => whnf
          refine ⟨⟨by omega, by omega⟩, ?_⟩
          conv => whnf
          refine ⟨u32v (r.list.getD t 0), c.S.rd (by rw [show 0 + ((t : Int)).toNat = t by omega]; exact acells_get r s t hlt), ?_⟩
          conv => whnf
          refine ⟨⟨by omega, by omega⟩, ?_⟩
          conv => whnf
          refine ⟨u32v (s.list.getD t 0), c.c.H.rd (by rw [show 0 + ((t : Int)).toNat = t by omega]; exact map_get u32v _ t 0 (by simpa [Sha.S8.list] using hlt)), ?_⟩
          conv => whnf
          refine ⟨⟨by omega, by omega⟩, ?_⟩
          conv => whnf
          intro h1 e1
          conv => whnf
          refine ⟨_, _, (c.more e1).S, by simp [acells, Sha.S8.list]; omega, ?_⟩
          intro h2 w
          have w := w.cast (l' := acells r s (t + 1)) (by
            rw [← acells_set r s t hlt]
            exact congr (congrArg (List.set (acells r s t)) (show 0 + ((t : Int)).toNat = t by omega)) (congrArg (Value.int .u32) (wrap_add32 _ _)))
          refine cw_region rfl ?_
          exact ⟨t + 1, ⟨rfl, rfl, rfl, slot_i64 _ _ (by omega) (by omega), trivial⟩, ⟨by omega, (c.more e1).wrote w rfl⟩, by omega⟩
        · refine cw_no rfl (by omega) (cw_exit ?_)
          have t8 : t = 8 := by omega
          subst t8
          have ea : acells r s 8 = ((Sha.compress s l).list.map u32v) := by
            subst hr
            rfl
          rw [ea] at c
          refine cw_seq (cw_region rfl ?_)
          conv => whnf
          refine ⟨_, by rfl, c.S.all, ?_⟩
          conv => whnf
          refine ⟨_, _, c.c.R, ⟨Nat.le_refl 8, by rfl, by simp [u32v, Value.oneCell', Sha.S8.list]⟩, ?_⟩
          intro h1 w1
          refine cw_ret ?_
          refine ⟨_, by rfl, w1.new.all, rfl, ?_⟩
          have lb := c.c.lb
          exact ⟨by rw [w1.size]; exact c.c.ext.size, fun b hb' => by rw [w1.block b (by omega)]; exact c.c.ext.block b hb'⟩
theorem rcompress_q (s : Sha.S8) (l : List UInt8) (hl : l.length = 64) (h : Heap) (T : Tab h) : FxQ Tryz.prog 488 #[.agg (s.list.map u32v).toArray, .agg (l.map u8v).toArray] h (.agg ((Sha.compress s l).list.map u32v).toArray) :=
  fun h1 x => rcompress_fn s l hl h1 (T.more x)
end Go.Proofs.YtdielfpgekenkaaGreatDoor
namespace Go.Proofs.YtdielfpgekenkaaGreatDoor.Vm
open Go Go.RowKit
theorem Fx.calls {P : Program} {f : FuncId} {args : Array Value} {W : World} (hp : plain P f = true) (H : Fx P f args W.heap fun v h' => v = .bool true ∧ ExtH W.heap h') :
    Calls P f args W fun e W' => e = .returned (.bool true) ∧ Below W.heap.size W W' := by
  rcases H with ⟨_, H⟩ | H
  · refine (H W rfl).mono ?_
    rintro e w' ⟨v, rfl, hs, rfl, hx⟩
    exact ⟨rfl, ⟨hs.os, hs.tape, hs.output, hx.size, hx.block⟩⟩
  · obtain ⟨v, w', h1, _⟩ := H W rfl
    unfold plain at hp
    split at hp
    · rename_i fn hfn
      simp only [Bool.and_eq_true, bne_iff_ne, ne_eq] at hp
      obtain ⟨body, hb⟩ := Option.isSome_iff_exists.1 hp.1
      simp [callFunc, hfn, hp.2, hb] at h1
    · cases hp
end Go.Proofs.YtdielfpgekenkaaGreatDoor.Vm
namespace Go.Proofs.YtdielfpgekenkaaGreatDoor
open Go Vm
open Go.ChangeShapes Go.WideShapes Go.ChangeAt Go.RowKit
set_option maxRecDepth 100000
section
variable {H : Type} {enc : TypeId × Value → H} {w : World} {base : Nat} {spare : Nat → Bool} {held : Bool}
/-- bytes out of numbers that fit -/
theorem bytes_of (zs : List Int) (h : ∀ z ∈ zs, (Lit.int .u8 z).wf = true) : ∃ l : List UInt8, l.length = zs.length ∧ zs = l.map (fun b => (b.toNat : Int)) := by
  refine ⟨zs.map (fun z => UInt8.ofNat z.toNat), by simp, ?_⟩
  rw [List.map_map]
  conv => lhs; rw [← List.map_id zs]
  apply List.map_congr_left
  intro z hz
  have := bounds_u8 (h z hz)
  simp
  omega
theorem open_arr {P : Program} {t e : TypeId} {n : Nat} {k : IntKind} {v : Value} {d : DataW H} {ps : List MemPlace} {r : Reach} {b0 : Nat} (ht : P.underlying t = some (.array n e)) (he : P.underlying e = some (.int k)) (hc : P.cellsOf e = 1) (hct : P.cellsOf t = n)
    (hval : Value.okWide P w r b0 t v) (hd : DataW.Trod enc P w base spare held t v d ps) : ∃ zs : List Int, zs.length = n ∧ v = .agg (zs.map (Value.int k)).toArray ∧ ∀ z ∈ zs, (Lit.int k z).wf = true := by
  obtain ⟨cs, rfl⟩ : ∃ cs, v = .agg cs := by
    simp only [Value.okWide, ht] at hval
    obtain ⟨cs, h1, _⟩ := hval
    exact ⟨cs, h1⟩
  obtain ⟨fuel, hf⟩ := hd
  obtain ⟨xs, m, _, _, hlen, hxs, hall⟩ := DataW.trod_array ht hf
  rw [hct] at hlen
  simp only [Value.cells] at hlen hall
  have hsz : cs.size = n := by simpa using hlen
  have key : ∀ i, i < n → ∃ z, cs.toList[i]? = some (.int k z) ∧ (Lit.int k z).wf = true := fun i hi => by
    have h1 := hall i hi
    rw [hc, Nat.mul_one, List.getElem?_eq_getElem (show i < xs.length by omega)] at h1
    obtain ⟨z, h2, _, h3⟩ := DataW.trod_int he h1
    refine ⟨z, ?_, h3⟩
    have h4 := congrArg (fun l => l[0]?) h2
    simpa [List.getElem?_take, List.getElem?_drop] using h4
  refine ⟨cs.toList.map (fun v => intOf v), by simp; omega, ?_, ?_⟩
  · congr 1
    apply Array.ext'
    refine List.ext_getElem? fun i => ?_
    by_cases hi : i < n
    · obtain ⟨z, h1, _⟩ := key i hi
      rw [List.map_map]
      simp only [List.getElem?_map, h1]
      rfl
    · rw [List.getElem?_eq_none (by simp; omega), List.getElem?_eq_none (by simp; omega)]
  · intro z hz
    obtain ⟨v, hv, rfl⟩ := List.mem_map.1 hz
    obtain ⟨i, hi, rfl⟩ := List.getElem_of_mem hv
    obtain ⟨z, h1, h2⟩ := key i (by omega)
    rw [List.getElem?_eq_getElem hi] at h1
    injection h1 with h1
    rw [h1]
    exact h2
theorem open_digest {v : Value} {d : DataW H} {ps : List MemPlace} {r : Reach} {b0 : Nat} (hval : Value.okWide Tryz.prog w r b0 85 v) (hd : DataW.Trod enc Tryz.prog w base spare held 85 v d ps) :
    ∃ l : List UInt8, l.length = 32 ∧ v = .agg (l.map u8v).toArray := by
  obtain ⟨zs, h1, h2, h3⟩ := open_arr (P := Tryz.prog) (n := 32) (e := 5) (k := .u8) rfl rfl (by kernel_rfl) (by kernel_rfl) hval hd
  obtain ⟨l, h4, h5⟩ := bytes_of zs h3
  refine ⟨l, by omega, ?_⟩
  rw [h2, h5, map_u8v]
/-- bytes that came in: they are read, in old blocks, and the row's bulk bounds them -/
theorem open_bytes {v : Value} {d : DataW H} {ps : List MemPlace} {r : Reach} {b0 : Nat} (hval : Value.okWide Tryz.prog w r b0 170 v) (hd : DataW.Trod enc Tryz.prog w base spare held 170 v d ps) :
    ∃ l : List UInt8, RD (fun b => b < w.heap.size) w.heap v l ∧ l.length ≤ Rows.uptoBulk d := by
  obtain ⟨a0, len, cap, rfl⟩ := okWide_slice (P := Tryz.prog) (e := 5) rfl hval
  have hspot : ∀ a, a0 = some a → a.spot = none := by
    rintro a rfl
    have := hval
    simp only [Value.okWide, show Tryz.prog.underlying 170 = some (.slice 5) from rfl, Cell.okWide, Cell.ok, World.has] at this
    exact this.2.2.2.1
  obtain ⟨fuel, hf⟩ := hd
  rcases open_ints (P := Tryz.prog) (e := 5) (k := .u8) rfl rfl (by kernel_rfl) hf with ⟨hcs, _⟩ | ⟨a, l, c, zs, hcs, _, hl, hm, hz, hx, hcell, hwz⟩
  · simp [Value.cells] at hcs
    obtain ⟨rfl, rfl, rfl⟩ := hcs
    exact ⟨[], RD.nil, Nat.zero_le _⟩
  · simp [Value.cells] at hcs
    obtain ⟨rfl, rfl, rfl⟩ := hcs
    have hs := hspot a rfl
    obtain ⟨b, o, spot⟩ := a
    simp only [] at hs
    subst hs
    have hzl : len ≤ zs.length := by rw [hz]; split <;> omega
    obtain ⟨m, h4, h5⟩ := bytes_of (zs.take len) (fun z hz => hwz z (List.mem_of_mem_take hz))
    have hlen : m.length = len := by rw [h4, List.length_take]; omega
    have hrd : rdN w.heap b o (m.map u8v) := fun j u hj => by
      have hjl : j < len := by have := (List.getElem?_eq_some_iff.1 hj).1; simpa [hlen] using this
      have := hcell j (by omega)
      rw [add_none, cell_eq_rd] at this
      rw [this]
      rw [map_u8v, ← h5, List.getElem?_map, List.getElem?_take, if_pos hjl] at hj
      rw [← hj, List.getElem?_eq_getElem (show j < zs.length by omega), List.getD_eq_getElem?_getD, List.getElem?_eq_getElem (show j < zs.length by omega)]
      rfl
    refine ⟨m, ⟨⟨by simp, .inr ⟨⟨b, o, none⟩, cap, by rw [hlen], by omega, hm, rdA_plain.2 hrd⟩⟩, fun hne c hc => ?_⟩, ?_⟩
    · rw [ob_slice] at hc
      subst hc
      cases m with
      | nil => exact absurd rfl hne
      | cons x m => exact rd_lt (hrd 0 (u8v x) rfl)
    · injection hx with hx
      subst hx
      have : ∀ ys : List Int, ys.length ≤ Rows.uptoBulkAll (lits (H := H) .u8 ys) := by
        intro ys
        induction ys with
        | nil => exact Nat.zero_le _
        | cons y ys ih =>
          show ys.length + 1 ≤ Rows.uptoBulk _ + Rows.uptoBulkAll _
          have : Rows.uptoBulk (DataW.lit (H := H) (.int .u8 y)) = 1 := by simp [Rows.uptoBulk]
          rw [this]
          have := ih
          simp only [lits] at this
          omega
      have h6 := this (zs.take len)
      simp only [Rows.uptoBulk]
      rw [List.length_take] at h6
      omega
end
end Go.Proofs.YtdielfpgekenkaaGreatDoor
namespace Go.Proofs.YtdielfpgekenkaaGreatDoor
open Go Vm
set_option maxRecDepth 100000
/-- the hash at p took the bytes m -/
def Took (h : Heap) (p : Nat) (v : Value) (m : List UInt8) : Prop := HashAt h p v (Sha.feed Sha.H0 m) (Sha.rest m) m.length
theorem Took.more {h h' : Heap} {p : Nat} {v : Value} {m : List UInt8} (T : Took h p v m) (x : ExtH h h') : Took h' p v m := HashAt.more T x
theorem Took.keep {S : Nat → Prop} {h h' : Heap} {p : Nat} {v : Value} {m : List UInt8} (T : Took h p v m) (c : Chg S h h') (hp : ¬ S p) (hv : ∀ b, ob v b → ¬ S b) : Took h' p v m := HashAt.keep T c hp hv
theorem took_new (h : Heap) : Fx Tryz.prog 304 #[] h fun v' h' => ∃ p, v' = .pointer (some ⟨p, 0, none⟩) ∧ h.size ≤ p ∧ Took h' p (.slice none 0 0) [] ∧ ExtH h h' := new_fn h
theorem took_write {D : Nat → Prop} {h : Heap} {p : Nat} {v x : Value} {m : List UInt8} {ms : List (List UInt8)} {pv : List Value} (T : Took h p v m) (hx : PD D h x ms pv)
    (hD : ∀ b, D b → b < h.size ∧ b ≠ p ∧ ¬ ob v b) (hms : m.length + ms.flatten.length ≤ 100000000000000) :
    Fx Tryz.prog 305 #[.pointer (some ⟨p, 0, none⟩), x] h fun u h' => u = .int .i64 0 ∧ ∃ v', Took h' p v' (m ++ ms.flatten) ∧ Chg (fun b => b = p ∨ ob v b) h h' ∧ ∀ b, ob v' b → ob v b ∨ h.size ≤ b := by
  refine (write_fn T hx hD (Sha.rest_lt m) (by omega) (by omega)).mono ?_
  rintro _ h' ⟨rfl, v', H', c', f'⟩
  refine ⟨rfl, v', ?_, c', f'⟩
  unfold Took
  rw [Sha.feed_app, List.length_append, ← Sha.rest_app]
  exact H'
theorem took_sum {h : Heap} {p : Nat} {v : Value} {m : List UInt8} (T : Took h p v m) (hm : m.length ≤ 100000000000000) :
    Fx Tryz.prog 306 #[.pointer (some ⟨p, 0, none⟩)] h fun u h' => u = .agg ((Sha.digest m).map u8v).toArray ∧ ExtH h h' :=
  sum_fn T (by have := Sha.rest_lt m; omega) (by omega)
theorem took_sum_q {h : Heap} {p : Nat} {v : Value} {m : List UInt8} (T : Took h p v m) (hm : m.length ≤ 100000000000000) :
    FxQ Tryz.prog 306 #[.pointer (some ⟨p, 0, none⟩)] h (.agg ((Sha.digest m).map u8v).toArray) := fun _ x => took_sum (T.more x) hm
theorem took_clone {h : Heap} {p : Nat} {v : Value} {m : List UInt8} (T : Took h p v m) :
    Fx Tryz.prog 430 #[.pointer (some ⟨p, 0, none⟩)] h fun u h' => ∃ q v', u = .pointer (some ⟨q, 0, none⟩) ∧ h.size ≤ q ∧ Took h' q v' m ∧ ExtH h h' ∧ ∀ b, ob v' b → h.size ≤ b :=
  hclone_fn T (by have := Sha.rest_lt m; omega)
/-- bytes of old blocks, in a world with other blocks behind -/
theorem RD.old {B : Nat} {h h' : Heap} {v : Value} {l : List UInt8} {D' : Nat → Prop} (R : RD (fun b => b < B) h v l) (_ : B ≤ h.size) (x : ∀ b, b < B → h'[b]? = h[b]?) (hs : h.size ≤ h'.size) (hD : ∀ b, b < B → D' b) : RD D' h' v l := by
  have c : Chg (fun b => B ≤ b) h h' := ⟨hs, fun b _ hn => x b (by omega)⟩
  have := R.keep c (fun b hb => by omega)
  exact ⟨this.1, fun hne b hb => hD b (this.2 hne b hb)⟩
theorem dig_same (xo yo : Operand) (l : List UInt8) (h : l.length = 32) (w : World) :
    (do eqGuard .eql 85 xo yo (.agg (l.map u8v).toArray) (.agg (l.map u8v).toArray); binOp .eql 85 (.agg (l.map u8v).toArray) (.agg (l.map u8v).toArray) : Sem Value).run Tryz.prog w = .ok (.bool true) w :=
  (dig_eq xo yo l l h h w).trans (by simp)
theorem dig_differ (xo yo : Operand) (l : List UInt8) (h : l.length = 32) (w : World) :
    (do eqGuard .neq 85 xo yo (.agg (l.map u8v).toArray) (.agg (l.map u8v).toArray); binOp .neq 85 (.agg (l.map u8v).toArray) (.agg (l.map u8v).toArray) : Sem Value).run Tryz.prog w = .ok (.bool false) w :=
  (dig_ne xo yo l l h h w).trans (by simp)
end Go.Proofs.YtdielfpgekenkaaGreatDoor
namespace Go.Proofs.YtdielfpgekenkaaGreatDoor
open Go Vm
set_option maxRecDepth 100000
/-- a state, as it is handed over -/
def stateC (s : Sha.S8) (b : Value) (n : Nat) : List Value := [u32v s.a, u32v s.b, u32v s.c, u32v s.d, u32v s.e, u32v s.f, u32v s.g, u32v s.h, b, .int .u64 (n : Int)]
end Go.Proofs.YtdielfpgekenkaaGreatDoor
namespace Go.Proofs.YtdielfpgekenkaaGreatDoor
open Go Vm
set_option maxRecDepth 100000
theorem words_eq (xo yo : Operand) (s t : Sha.S8) (w : World) :
    (do eqGuard .eql 598 xo yo (.agg (s.list.map u32v).toArray) (.agg (t.list.map u32v).toArray); binOp .eql 598 (.agg (s.list.map u32v).toArray) (.agg (t.list.map u32v).toArray) : Sem Value).run Tryz.prog w = .ok (.bool (decide (s = t))) w := by
  have e : ∀ s : Sha.S8, s.list.map u32v = (s.list.map (fun x => (x.toNat : Int))).map (Value.int .u32) := fun s => by rw [List.map_map]; rfl
  rw [e, e, run_eq_ints (P := Tryz.prog) (t := 598) (e := 561) (n := 8) rfl rfl (by kernel_rfl) (i := Tryz.prog.types[561]) rfl (by kernel_rfl) (by kernel_rfl) xo yo _ _ rfl rfl w]
  congr 3
  rw [eq_iff_iff]
  constructor
  · intro h
    cases s; cases t
    simp only [Sha.S8.list, List.map_cons, List.map_nil, List.cons.injEq, Int.natCast_inj, UInt32.toNat_inj, and_true] at h
    simp only [Sha.S8.mk.injEq]
    exact h
  · rintro rfl; rfl
end Go.Proofs.YtdielfpgekenkaaGreatDoor
namespace Go.Proofs.YtdielfpgekenkaaGreatDoor
open Go Vm
set_option maxRecDepth 100000
theorem rbeginning_fn (h : Heap) : Fx Tryz.prog 489 #[] h fun v h' => v = .agg (Sha.H0.list.map u32v).toArray ∧ ExtH h h' := by
  refine fn_of 2 Tryz.func489 rfl (by kernel_rfl) rfl (by simp) ?_
  refine cw_seq (cw_region rfl ?_)
  conv => whnf
  intro h1 n1
  refine cw_seq (cw_region rfl ?_)
  conv => whnf
  refine ⟨_, rfl, (Sha.H0.list.map u32v).toArray, fun w => by kernel_rfl, ?_⟩
  conv => whnf
  refine ⟨_, _, n1.blk, ⟨by decide, by decide, by decide⟩, ?_⟩
  intro h2 w2
  refine cw_ret ?_
  refine ⟨_, ?_, w2.new.all, ?_⟩
  · decide
  refine ⟨?_, ?_⟩
  · rfl
  exact ⟨by rw [w2.size, n1.size]; omega, fun b hb => by rw [w2.block b (by omega), n1.block b hb]⟩
theorem stateC_one (s : Sha.S8) (v : Value) (n : Nat) (hv : v.oneCell' = true) : ∀ x ∈ (stateC s v n).toArray.toList, x.oneCell' = true := by
  intro x hx
  simp only [stateC, List.mem_cons, List.not_mem_nil, or_false] at hx
  rcases hx with rfl | rfl | rfl | rfl | rfl | rfl | rfl | rfl | rfl | rfl <;> first | exact hv | rfl
theorem rnew_fn (h : Heap) : Fx Tryz.prog 386 #[] h fun v h' => v = .agg (stateC Sha.H0 (.slice none 0 0) 0).toArray ∧ ExtH h h' := by
  refine fn_of 3 Tryz.func386 rfl (by kernel_rfl) rfl (by simp) ?_
  refine cw_seq (cw_region rfl ?_)
  conv => whnf
  intro h1 n1
  have y1 : Blk h1 h.size (stateC ⟨0, 0, 0, 0, 0, 0, 0, 0⟩ (.slice none 0 0) 0) 600 := n1.blk
  have z1 := n1.size
  refine cw_seq (cw_region rfl ?_)
  conv => whnf
  refine ⟨_, rfl, _, rbeginning_fn h1, ?_⟩
  rintro _ h2 ⟨rfl, x2⟩
  have z2 := x2.size
  conv => whnf
  refine ⟨_, rfl, (stateC Sha.H0 (.slice none 0 0) 0).toArray, fun w => by kernel_rfl, ?_⟩
  conv => whnf
  refine ⟨_, _, x2.blk y1, ⟨(show (10 : Nat) ≤ 10 by decide), by rfl, stateC_one _ _ _ rfl⟩, ?_⟩
  intro h3 w3
  replace w3 := w3.cast (l' := stateC Sha.H0 (.slice none 0 0) 0) (by rfl)
  have z3 := w3.size
  refine cw_ret ?_
  conv => whnf
  exact ⟨_, by rfl, w3.new.all, rfl, ⟨by omega, fun b hb => by rw [w3.block b (by omega), x2.block b (by omega), n1.block b hb]⟩⟩
theorem copy_fn {h : Heap} {s : Sha.S8} {v : Value} {l : List UInt8} {n : Nat} (hb : RB h v l) (hl : l.length ≤ 140737488355328) :
    Fx Tryz.prog 487 #[.agg (stateC s v n).toArray] h fun u h' => ∃ v', u = .agg (stateC s v' n).toArray ∧ OB h' v' l ∧ ExtH h h' ∧ ∀ b, ob v' b → h.size ≤ b := by
  refine fn_of 11 Tryz.func487 rfl (by kernel_rfl) rfl (by simp) ?_
  refine cw_seq (cw_region rfl ?_)
  conv => whnf
  intro h1 n1
  conv => whnf
  intro h2 n2
  have y1 : Blk h2 h.size (stateC s v n) 600 := n2.ext.blk n1.blk
  have y2 : Blk h2 h1.size (stateC ⟨0, 0, 0, 0, 0, 0, 0, 0⟩ (.slice none 0 0) 0) 600 := n2.blk
  have z1 := n1.size; have z2 := n2.size
  have x2 := n1.ext.trans n2.ext
  clear n1 n2
  generalize hh1 : h1.size = b1 at *
  refine cw_seq (cw_region rfl ?_)
  refine cw_seq (cw_region rfl ?_)
  conv => whnf
  refine ⟨_, y1.rd (o := 8) rfl, ?_⟩
  conv => whnf
  refine ⟨_, rfl, _, append_bytes (ty := 170) (v := .slice none 0 0) (OB.nil h2) (hb.more x2) (by simp; omega), ?_⟩
  rintro v3 h3 ⟨o3, c3, f3⟩
  rw [List.nil_append] at o3
  have x3 : ExtH h2 h3 := c3.ext (fun b hb => (ob_nil hb).elim)
  have z3 := x3.size
  obtain ⟨a3, k3, e3⟩ := o3.r.len
  subst e3
  refine cw_seq (cw_region rfl ?_)
  conv => whnf
  refine ⟨_, _, x3.blk y1, (show (8 : Nat) < 10 by decide), ?_⟩
  intro h4 w4
  generalize hv3 : Value.slice a3 l.length k3 = v3 at *
  replace w4 := w4.cast (l' := stateC s v3 n) rfl
  have z4 := w4.size
  refine cw_seq (cw_region rfl ?_)
  conv => whnf
  refine ⟨_, by rfl, w4.new.all, ?_⟩
  conv => whnf
  refine ⟨_, _, w4.blk (x3.blk y2) (by omega), ⟨(show (10 : Nat) ≤ 10 by decide), by rfl, stateC_one _ _ _ (by subst hv3; rfl)⟩, ?_⟩
  intro h5 w5
  replace w5 := w5.cast (l' := stateC s v3 n) (by rfl)
  have z5 := w5.size
  have fr : ∀ b, ob v3 b → h2.size ≤ b := fun b hb => (f3 b hb).elim (fun e => (ob_nil e).elim) id
  refine cw_ret ?_
  conv => whnf
  refine ⟨_, by rfl, w5.new.all, ?_⟩
  exact ⟨v3, rfl, OwnS.keep (OwnS.keep o3 w4.chg (fun b hb e => by have := fr b hb; omega)) w5.chg (fun b hb e => by have := fr b hb; omega),
    ⟨by omega, fun b hb => by rw [w5.block b (by omega), w4.block b (by omega), x3.block b (by omega), x2.block b hb]⟩, fun b hb => by have := fr b hb; omega⟩
theorem joined_fn {D : Nat → Prop} {h : Heap} {x : Value} {ms : List (List UInt8)} {pv : List Value} (hx : PD D h x ms pv) (hms : ms.flatten.length ≤ 100000000000000) :
    Fx Tryz.prog 387 #[x] h fun u h' => OB h' u ms.flatten ∧ ExtH h h' ∧ ∀ b, ob u b → h.size ≤ b := by
  refine fn_of 18 Tryz.func387 rfl (by kernel_rfl) rfl (by simp) ?_
  obtain ⟨a, c, hfx, hlen⟩ := hx.fix
  have hmax : maxLen < 9223372036854775808 := by decide
  subst hfx
  refine cw_seq (cw_region rfl ?_)
  refine cw_seq (cw_region rfl ?_)
  refine cw_seq (cw_seq (cw_region rfl ?_))
  conv => whnf
  refine cw_block ?_
  refine cw_loop (S := Nat × Value) (fun q => [(0, .slice a ms.length c), (3, q.2), (4, .int .i64 (q.1 : Int))])
    (fun q h' => q.1 ≤ ms.length ∧ OB h' q.2 (upto ms q.1) ∧ ExtH h h' ∧ ∀ b, ob q.2 b → h.size ≤ b) (fun q => ms.length - q.1) (0, .slice none 0 0) ⟨rfl, rfl, rfl, trivial⟩
    ⟨Nat.zero_le _, OB.nil h, ExtH.refl _, fun b hb => (ob_nil hb).elim⟩ ?_
  rintro ⟨t, v⟩ h1 ⟨ht, o1, x1, f1⟩
  simp only [] at ht o1 f1
  refine cw_seq (cw_seq (cw_region rfl ?_))
  conv => whnf
  by_cases hlt : t < ms.length
  · refine cw_yes rfl (by show (t : Int) < (ms.length : Int); omega) (cw_skip ?_)
    have hx1 := hx.keep (x1.chg (S := fun _ => False)) (fun _ _ e => e)
    obtain ⟨b, o, m, u, rfl, hm, hr, hu⟩ := hx1.row t hlt
    have hsucc := upto_succ ms t m hm
    have hle := upto_le ms (t + 1)
    have hle' : (upto ms (t + 1)).length = (upto ms t).length + m.length := by rw [hsucc]; simp
    refine cw_seq (cw_block (cw_region rfl ?_))
    conv => whnf
    refine ⟨⟨by omega, by show (t : Int) < ((ms.length : Nat) : Int); omega⟩, ?_⟩
    conv => whnf
    refine ⟨_, hr, ?_⟩
    conv => whnf
    refine ⟨_, rfl, _, append_bytes (ty := 170) o1 hu.1 (by omega), ?_⟩
    rintro v2 h2 ⟨o2, c2, f2⟩
    rw [← hsucc] at o2
    have z1 := x1.size; have z2 := c2.size
    refine cw_region rfl ?_
    exact ⟨(t + 1, v2), ⟨rfl, rfl, slot_i64 _ _ (by simp only []; omega) (by simp only []; omega), trivial⟩, ⟨hlt, o2, ⟨by omega, fun b hb => by rw [c2.block b (by omega) (fun e => by have := f1 b e; omega), x1.block b hb]⟩,
      fun b hb => (f2 b hb).elim (fun e => f1 b e) (fun e => by omega)⟩, by show ms.length - (t + 1) < ms.length - t; omega⟩
  · refine cw_no rfl (by show ¬ (t : Int) < (ms.length : Int); omega) (cw_exit ?_)
    have tn : t = ms.length := by omega
    subst tn
    rw [upto_all] at o1
    refine cw_seq (cw_region rfl ?_)
    exact cw_ret ⟨o1, x1, f1⟩
theorem rest_drop (l : List UInt8) (h : 64 ≤ l.length) : Sha.rest (l.drop 64) = Sha.rest l := by
  unfold Sha.rest
  rw [List.drop_drop, List.length_drop]
  congr 1
  omega
def bcells (l : List UInt8) (t : Nat) : List Value := (l.take t).map u8v ++ List.replicate (64 - t) (u8v 0)
theorem bcells_set (l : List UInt8) (t : Nat) (ht : t < 64) (hl : 64 ≤ l.length) : (bcells l t).set t (u8v (l.getD t 0)) = bcells l (t + 1) := by
  unfold bcells
  rw [set_snoc _ _ _ _ _ (by simp; omega) (by omega), List.take_add_one, List.getElem?_eq_getElem (show t < l.length by omega), List.getD_eq_getElem?_getD, List.getElem?_eq_getElem (show t < l.length by omega)]
  rw [show 64 - t - 1 = 64 - (t + 1) by omega]
  simp only [Option.toList_some, List.map_append, List.map_cons, List.map_nil, Option.getD_some]
theorem rtaken_fn {h : Heap} {s : Sha.S8} {v x : Value} {l m : List UInt8} {n : Nat} (T : Tab h) (hb : RB h v l) (hx : RB h x m) (hl : l.length + m.length ≤ 100000000000000) (hn : n + m.length < 18446744073709551616) :
    Fx Tryz.prog 385 #[.agg (stateC s v n).toArray, x] h fun u h' => ∃ v', u = .agg (stateC (Sha.feed s (l ++ m)) v' (n + m.length)).toArray ∧ OB h' v' (Sha.rest (l ++ m)) ∧ ExtH h h' ∧ ∀ b, ob v' b → h.size ≤ b := by
  refine fn_of 50 Tryz.func385 rfl (by kernel_rfl) rfl (by simp) ?_
  obtain ⟨xa, xc, hxe⟩ := hx.len
  refine cw_seq (cw_region rfl ?_)
  conv => whnf
  intro h1 n1
  conv => whnf
  intro h2 n2
  have y1 : Blk h2 h.size (stateC s v n) 600 := n2.ext.blk n1.blk
  have y2 : Blk h2 h1.size (stateC ⟨0, 0, 0, 0, 0, 0, 0, 0⟩ (.slice none 0 0) 0) 600 := n2.blk
  have z1 := n1.size; have z2 := n2.size
  have x2 := n1.ext.trans n2.ext
  clear n1 n2
  generalize hh1 : h1.size = b1 at *
  refine cw_seq (cw_region rfl ?_)
  conv => whnf
  refine ⟨_, by rfl, y1.all, ?_⟩
  conv => whnf
  refine ⟨_, rfl, _, copy_fn (hb.more x2) (by omega), ?_⟩
  rintro _ h3 ⟨v3, rfl, o3, x3, f3⟩
  have z3 := x3.size
  conv => whnf
  refine ⟨_, _, x3.blk y1, ⟨(show (10 : Nat) ≤ 10 by decide), by rfl, stateC_one _ _ _ (by obtain ⟨a, k, e⟩ := o3.r.len; subst e; rfl)⟩, ?_⟩
  intro h4 w4
  replace w4 := w4.cast (l' := stateC s v3 n) (by rfl)
  have z4 := w4.size
  have o4 : OB h4 v3 l := OwnS.keep o3 w4.chg (fun b hb e => by have := f3 b hb; omega)
  have x4 : ExtH h h4 := ⟨by omega, fun b hb => by rw [w4.block b (by omega), x3.block b (by omega), x2.block b hb]⟩
  refine cw_seq (cw_region rfl ?_)
  conv => whnf
  refine ⟨_, w4.new.rd (o := 8) rfl, ?_⟩
  conv => whnf
  refine ⟨_, rfl, _, append_bytes (ty := 170) o4 (hx.more x4) (by omega), ?_⟩
  rintro v5 h5 ⟨o5, c5, f5⟩
  have z5 := c5.size
  have np : ¬ ob v3 h.size := fun e => by have := f3 _ e; omega
  have g5 : ∀ b, ob v5 b → h2.size ≤ b := fun b hb => (f5 b hb).elim (fun e => f3 b e) (fun e => by omega)
  obtain ⟨a5, k5, e5⟩ := o5.r.len
  subst e5
  conv => whnf
  refine ⟨_, _, c5.blk w4.new np, (show (8 : Nat) < 10 by decide), ?_⟩
  intro h6 w6
  generalize hv5 : Value.slice a5 (l ++ m).length k5 = v5 at *
  replace w6 := w6.cast (l' := stateC s v5 n) rfl
  have z6 := w6.size
  have o6 : OB h6 v5 (l ++ m) := OwnS.keep o5 w6.chg (fun b hb e => by have := g5 b hb; omega)
  refine cw_seq (cw_region rfl ?_)
  subst hxe
  conv => whnf
  refine ⟨_, w6.new.rd (o := 9) rfl, ?_⟩
  have e1 := u64_in (m.length : Int) m.length rfl (by omega)
  have e2 := u64_in (((n : Nat) : Int) + (m.length : Int)) (n + m.length) (by omega) (by omega)
  conv => whnf
  rw [e1, e2]
  refine ⟨_, _, w6.new, (show (9 : Nat) < 10 by decide), ?_⟩
  intro h7 w7
  replace w7 := w7.cast (l' := stateC s v5 (n + m.length)) rfl
  have z7 := w7.size
  have o7 : OB h7 v5 (l ++ m) := OwnS.keep o6 w7.chg (fun b hb e => by have := g5 b hb; omega)
  have x7 : ExtH h h7 := ⟨by omega, fun b hb => by rw [w7.block b (by omega), w6.block b (by omega), c5.block b (by omega) (fun e => by have := f3 b e; omega), x4.block b hb]⟩
  have y7 := w7.new
  have yr : Blk h7 b1 (stateC ⟨0, 0, 0, 0, 0, 0, 0, 0⟩ (.slice none 0 0) 0) 600 := w7.blk (w6.blk (c5.blk (w4.blk (x3.blk y2) (by omega)) (fun e => by have := f3 _ e; omega)) (by omega)) (by omega)
  have hlm : (l ++ m).length ≤ 100000000000000 := by simpa using hl
  generalize n + m.length = N at *
  generalize l ++ m = lm at *
  clear w4 w6 w7 c5 o3 o4 o5 o6 y1 y2 hv5
  refine cw_seq (cw_block ?_)
  refine cw_loop (S := Sha.S8 × Value × List UInt8) (fun q => [(2, .pointer (some ⟨h.size, 0, none⟩)), (4, .pointer (some ⟨b1, 0, none⟩))])
    (fun q h' => q.2.2.length ≤ lm.length ∧ Sha.feed q.1 q.2.2 = Sha.feed s lm ∧ Sha.rest q.2.2 = Sha.rest lm ∧ Blk h' h.size (stateC q.1 q.2.1 N) 600 ∧ Blk h' b1 (stateC ⟨0, 0, 0, 0, 0, 0, 0, 0⟩ (.slice none 0 0) 0) 600 ∧
      OB h' q.2.1 q.2.2 ∧ ExtH h h' ∧ ∀ b, ob q.2.1 b → h2.size ≤ b) (fun q => q.2.2.length) (s, v5, lm) ⟨rfl, rfl, trivial⟩ ⟨Nat.le_refl _, rfl, rfl, y7, yr, o7, x7, g5⟩ ?_
  clear y7 yr o7 x7 g5 f5 z3 z4 z5 z6 z7 h3 h4 h5 h6 h7 x3 x4 f3 np e1 e2
  rintro ⟨s1, v1, l1⟩ h3 ⟨hle, hf, hr, y1, y2, o1, x3, f1⟩
  simp only [] at hle hf hr y1 y2 o1 f1
  have z3 := x3.size
  have lp := y1.lt
  have lr := y2.lt
  obtain ⟨va, vc, hve⟩ := o1.r.len
  refine cw_seq (cw_seq (cw_region rfl ?_))
  conv => whnf
  refine ⟨_, y1.rd (o := 8) rfl, ?_⟩
  subst hve
  conv => whnf
  by_cases h64 : 64 ≤ l1.length
  · refine cw_yes rfl (by omega) (cw_skip ?_)
    refine cw_block (cw_seq (cw_region rfl ?_))
    conv => whnf
    intro h4 n4
    have z4 := n4.size
    have y4 : Blk h4 h3.size (bcells l1 0) 715 := n4.blk
    have x34 := n4.ext
    clear n4
    refine cw_seq (cw_seq (cw_region rfl ?_))
    conv => whnf
    refine cw_block ?_
    refine cw_loop (S := Nat) (fun t => [(2, .pointer (some ⟨h.size, 0, none⟩)), (4, .pointer (some ⟨b1, 0, none⟩)), (5, .pointer (some ⟨h3.size, 0, none⟩)), (6, .int .i64 (t : Int))])
      (fun t h' => t ≤ 64 ∧ ExtH h3 h' ∧ Blk h' h3.size (bcells l1 t) 715) (fun t => 64 - t) 0 ⟨rfl, rfl, rfl, rfl, trivial⟩ ⟨by omega, x34, y4⟩ ?_
    clear y4 x34 z4 h4
    rintro t h4 ⟨ht, x34, y4⟩
    have z4 := x34.size
    refine cw_seq (cw_seq (cw_region rfl ?_))
    conv => whnf
    by_cases hlt : t < 64
    · refine cw_yes rfl (by omega) (cw_skip ?_)
      obtain ⟨gb, go, gc, hge, hgr⟩ := RB.get (RB.more o1.r x34) t (by omega)
      injection hge with hge _ hgc
      subst hge hgc
      refine cw_seq (cw_block (cw_region rfl ?_))
      conv => whnf
      refine ⟨_, (x34.blk y1).rd (o := 8) rfl, ?_⟩
      conv => whnf
      refine ⟨⟨by omega, by omega⟩, ?_⟩
      conv => whnf
      refine ⟨_, hgr, ?_⟩
      conv => whnf
      refine ⟨⟨by omega, by omega⟩, ?_⟩
      conv => whnf
      refine ⟨_, _, y4, by simp [bcells]; omega, ?_⟩
      intro h5 w5
      replace w5 := w5.cast (l' := bcells l1 (t + 1)) (by
        rw [← bcells_set l1 t hlt h64]
        exact congrArg (fun i => List.set (bcells l1 t) i _) (show 0 + ((t : Int)).toNat = t by omega))
      have z5 := w5.size
      refine cw_region rfl ?_
      exact ⟨t + 1, ⟨rfl, rfl, rfl, slot_i64 _ _ (by omega) (by omega), trivial⟩, ⟨by omega, ⟨by omega, fun b hb => by rw [w5.block b (by omega), x34.block b hb]⟩, w5.new⟩, by omega⟩
    · refine cw_no rfl (by omega) (cw_exit ?_)
      have t64 : t = 64 := by omega
      subst t64
      have e64 : bcells l1 64 = (l1.take 64).map u8v := by simp [bcells]
      rw [e64] at y4
      have l64 : (l1.take 64).length = 64 := by rw [List.length_take]; omega
      have y14 := x34.blk y1
      have y24 := x34.blk y2
      have o4 := OwnS.more o1 x34
      refine cw_seq (cw_region rfl ?_)
      conv => whnf
      refine ⟨s1.list.map u32v, by rfl, y14.rdN 0 _ rfl, ?_⟩
      conv => whnf
      refine ⟨_, Eq.trans (b := 64) (by simp; omega) rfl, y4.all, ?_⟩
      conv => whnf
      refine ⟨_, rfl, _, rcompress_fn s1 (l1.take 64) l64 h4 (T.more (x3.trans x34)), ?_⟩
      rintro _ h5 ⟨rfl, x5⟩
      have z5 := x5.size
      conv => whnf
      refine ⟨_, _, x5.blk y14, ⟨(show (8 : Nat) ≤ 10 by decide), by rfl, by simp [u32v, Value.oneCell', Sha.S8.list]⟩, ?_⟩
      intro h6 w6
      replace w6 := w6.cast (l' := stateC (Sha.compress s1 (l1.take 64)) (.slice va l1.length vc) N) (by rfl)
      have z6 := w6.size
      refine cw_seq (cw_region rfl ?_)
      refine cw_seq (cw_region rfl ?_)
      conv => whnf
      refine ⟨_, w6.new.rd (o := 8) rfl, ?_⟩
      conv => whnf
      have o6 := OwnS.keep (OwnS.more o4 x5) w6.chg (fun b hb e => by have := f1 b hb; omega)
      obtain ⟨g1, A1, hA1, hR1⟩ := RB.cut (OwnS.src o6) 64 l1.length h64 (Nat.le_refl _) (x := ((64 : Nat) : Int)) rfl (y := (l1.length : Int)) rfl
      refine ⟨g1, A1, hA1, ?_⟩
      conv => whnf
      refine ⟨_, rfl, _, append_bytes (ty := 170) (v := .slice none 0 0) (OB.nil h6) hR1 (by simp; omega), ?_⟩
      rintro v7 h7 ⟨o7, c7, f7⟩
      have ed : [] ++ (l1.drop 64).take (l1.length - 64) = l1.drop 64 := by
        rw [List.nil_append, List.take_of_length_le (by simp)]
      rw [ed] at o7
      have x7 : ExtH h6 h7 := c7.ext (fun b hb => (ob_nil hb).elim)
      have z7 := x7.size
      have f7' : ∀ b, ob v7 b → h6.size ≤ b := fun b hb => (f7 b hb).elim (fun e => (ob_nil e).elim) id
      obtain ⟨a7, k7, e7⟩ := o7.r.len
      subst e7
      refine cw_region rfl ?_
      conv => whnf
      refine ⟨_, _, x7.blk w6.new, (show (8 : Nat) < 10 by decide), ?_⟩
      intro h8 w8
      generalize hv7 : Value.slice a7 (l1.drop 64).length k7 = v7 at *
      replace w8 := w8.cast (l' := stateC (Sha.compress s1 (l1.take 64)) v7 N) rfl
      have z8 := w8.size
      refine ⟨(Sha.compress s1 (l1.take 64), v7, l1.drop 64), ⟨rfl, rfl, trivial⟩, ⟨by simp; omega, ?_, ?_, w8.new, ?_, ?_, ?_, ?_⟩, by simp; omega⟩
      · rw [← hf, Sha.feed_block s1 l1 h64]
      · rw [← hr]; exact rest_drop l1 h64
      · exact w8.blk (x7.blk (w6.blk (x5.blk y24) (by omega))) (by omega)
      · exact OwnS.keep o7 w8.chg (fun b hb e => by have := f7' b hb; omega)
      · exact ⟨by omega, fun b hb => by rw [w8.block b (by omega), x7.block b (by omega), w6.block b (by omega), x5.block b (by omega), x34.block b (by omega), x3.block b hb]⟩
      · intro b hb
        have := f7' b hb
        omega
  · refine cw_no rfl (by omega) (cw_exit ?_)
    rw [Sha.feed_lt s1 (by omega)] at hf
    rw [Sha.rest_short (by omega)] at hr
    subst hf hr
    refine cw_seq (cw_region rfl ?_)
    conv => whnf
    refine ⟨_, by rfl, y1.all, ?_⟩
    conv => whnf
    refine ⟨_, _, y2, ⟨(show (10 : Nat) ≤ 10 by decide), by rfl, stateC_one _ _ _ rfl⟩, ?_⟩
    intro h4 w4
    have z4 := w4.size
    replace w4 := w4.cast (l' := stateC (Sha.feed s lm) (.slice va (Sha.rest lm).length vc) N) (by rfl)
    refine cw_ret ?_
    conv => whnf
    refine ⟨_, by rfl, w4.new.all, ?_⟩
    exact ⟨_, rfl, OwnS.keep o1 w4.chg (fun b hb e => by have := f1 b hb; omega), ⟨by omega, fun b hb => by rw [w4.block b (by omega), x3.block b hb]⟩, fun b hb => by have := f1 b hb; omega⟩
end Go.Proofs.YtdielfpgekenkaaGreatDoor
