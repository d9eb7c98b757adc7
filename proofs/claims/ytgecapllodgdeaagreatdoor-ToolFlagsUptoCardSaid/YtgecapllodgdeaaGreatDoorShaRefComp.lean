/-
  The contracts of the document's rotr and Compress: the table is a package's.
-/
import Derived.Test.YtgecapllodgdeaaGreatDoorShaCore7
import Derived.Test.YtgecapllodgdeaaGreatDoorVmHead
namespace Go.Proofs.YtgecapllodgdeaaGreatDoor
open Go Vm
set_option maxRecDepth 100000
theorem rotr_fn (x : UInt32) (n : Nat) (h1 : 1 ≤ n) (h2 : n ≤ 31) : FxP Tryz.prog 127 #[u32v x, .int .u64 (n : Int)] (u32v (Sha.rotr x n)) := by
  intro h
  refine fn_of 13 Tryz.func127 rfl (by kernel_rfl) rfl (by simp) ?_
  refine cw_seq (cw_region rfl ?_)
  refine cw_seq (cw_region rfl ?_)
  conv => whnf
  refine ⟨by omega, ?_⟩
  conv => whnf
  have e : IntKind.u64.wrap (32 - (n : Int)) = ((32 - n : Nat) : Int) := by simp [IntKind.wrap, IntKind.bits, IntKind.signed]; omega
  refine ⟨by show 0 ≤ IntKind.u64.wrap (32 - (n : Int)); omega, ?_⟩
  conv => whnf
  refine cw_ret ⟨?_, rfl⟩
  show Value.int .u32 (bits .or .u32 ((x.toNat : Int) / 2 ^ min ((n : Int)).toNat 32) (IntKind.u32.wrap ((x.toNat : Int) * 2 ^ min (IntKind.u64.wrap (32 - (n : Int))).toNat 32))) = _
  rw [e, show min ((n : Int)).toNat 32 = n by omega, show min (((32 - n : Nat) : Int)).toNat 32 = 32 - n by omega]
  have hr := rot_eq x (32 - n) (by omega) (by omega)
  rw [show 32 - (32 - n) = n by omega] at hr
  refine congrArg (Value.int .u32) (Eq.trans ?_ hr)
  have e1 : IntKind.u32.wrap ((x.toNat : Int) * 2 ^ (32 - n)) = ((x.toNat * 2 ^ (32 - n) % 4294967296 : Nat) : Int) := by
    rw [IntKind.wrap_u32]; simp
  have e2 : (x.toNat : Int) / 2 ^ n = ((x.toNat / 2 ^ n : Nat) : Int) := by simp
  have b1 : x.toNat * 2 ^ (32 - n) % 4294967296 < 4294967296 := Nat.mod_lt _ (by decide)
  have b2 : x.toNat / 2 ^ n < 4294967296 := Nat.lt_of_le_of_lt (Nat.div_le_self _ _) (u32_lt x)
  rw [e1, e2, u32_or_nat _ _ b1 b2, u32_or_nat _ _ b2 b1, Nat.or_comm]
/-- the document's table lies where it was laid -/
def Tab (h : Heap) : Prop := rdN h 4 0 (Sha.K.map u32v)
theorem Tab.more {h h' : Heap} (T : Tab h) (x : ExtH h h') : Tab h' := (x.chg (S := fun _ => False)).rdN T (fun e => e)
theorem Tab.lt {h : Heap} (T : Tab h) : 4 < h.size := rd_lt (T 0 _ rfl)
/-- the blocks of a call of the document's Compress -/
structure RC (h0 : Heap) (hb bb rb wb : Nat) (s : Sha.S8) (l : List UInt8) (wl : List Value) (h : Heap) : Prop where
  lb : h0.size ≤ hb ∧ h0.size ≤ bb ∧ h0.size ≤ rb ∧ h0.size ≤ wb ∧ hb < bb ∧ bb < rb ∧ rb < wb
  ext : ExtH h0 h
  H : Blk h hb (s.list.map u32v) 174
  B : Blk h bb (l.map u8v) 231
  R : Blk h rb (List.replicate 8 z32) 174
  W : Blk h wb wl 250
theorem RC.more {h0 : Heap} {hb bb rb wb : Nat} {s : Sha.S8} {l : List UInt8} {wl : List Value} {h h' : Heap} (c : RC h0 hb bb rb wb s l wl h) (e : ExtH h h') : RC h0 hb bb rb wb s l wl h' :=
  ⟨c.lb, c.ext.trans e, e.blk c.H, e.blk c.B, e.blk c.R, e.blk c.W⟩
theorem RC.wrote {h0 : Heap} {hb bb rb wb : Nat} {s : Sha.S8} {l : List UInt8} {wl wl' : List Value} {h h' : Heap} {t : TypeId} (c : RC h0 hb bb rb wb s l wl h) (e : Wrote h h' wb wl' t) (ht : t = 250) : RC h0 hb bb rb wb s l wl' h' := by
  subst ht
  have := c.lb
  exact ⟨c.lb, ⟨by rw [e.size]; exact c.ext.size, fun b hb' => by rw [e.block b (by omega)]; exact c.ext.block b hb'⟩, e.blk c.H (by omega), e.blk c.B (by omega), e.blk c.R (by omega), e.new⟩
structure RS (h0 : Heap) (hb bb rb wb sb : Nat) (s : Sha.S8) (l : List UInt8) (wl sl : List Value) (h : Heap) : Prop where
  c : RC h0 hb bb rb wb s l wl h
  lt : wb < sb
  S : Blk h sb sl 174
theorem RS.more {h0 : Heap} {hb bb rb wb sb : Nat} {s : Sha.S8} {l : List UInt8} {wl sl : List Value} {h h' : Heap} (c : RS h0 hb bb rb wb sb s l wl sl h) (e : ExtH h h') : RS h0 hb bb rb wb sb s l wl sl h' :=
  ⟨c.c.more e, c.lt, e.blk c.S⟩
theorem RS.wrote {h0 : Heap} {hb bb rb wb sb : Nat} {s : Sha.S8} {l : List UInt8} {wl sl sl' : List Value} {h h' : Heap} {t : TypeId} (c : RS h0 hb bb rb wb sb s l wl sl h) (e : Wrote h h' sb sl' t) (ht : t = 174) : RS h0 hb bb rb wb sb s l wl sl' h' := by
  subst ht
  have := c.c.lb
  have := c.lt
  exact ⟨⟨c.c.lb, ⟨by rw [e.size]; exact c.c.ext.size, fun b hb' => by rw [e.block b (by omega)]; exact c.c.ext.block b hb'⟩, e.blk c.c.H (by omega), e.blk c.c.B (by omega), e.blk c.c.R (by omega), e.blk c.c.W (by omega)⟩, c.lt, e.new⟩
theorem next_eq' (w : List UInt32) (t : Nat) (i : Int) (hi : i = ((Sha.s1 (w.getD (t - 2) 0) + w.getD (t - 7) 0 + Sha.s0 (w.getD (t - 15) 0) + w.getD (t - 16) 0).toNat : Int)) : Value.int .u32 i = u32v (Sha.next w t) := by
  rw [hi]
  unfold Sha.next u32v
  congr 3
  ac_rfl
theorem t1_eq' (s : Sha.S8) (k w : UInt32) : IntKind.u32.wrap (IntKind.u32.wrap (IntKind.u32.wrap (IntKind.u32.wrap ((s.h.toNat : Int) + bits .xor .u32 (bits .xor .u32 ((Sha.rotr s.e 6).toNat : Int) ((Sha.rotr s.e 11).toNat : Int)) ((Sha.rotr s.e 25).toNat : Int)) +
    bits .xor .u32 (bits .and .u32 (s.e.toNat : Int) (s.f.toNat : Int)) (bits .and .u32 (bits .xor .u32 4294967295 (s.e.toNat : Int)) (s.g.toNat : Int))) + (k.toNat : Int)) + (w.toNat : Int)) = ((Sha.t1 s k w).toNat : Int) := by
  rw [S1_eq]
  exact t1_eq s k w
theorem t2_eq' (s : Sha.S8) : IntKind.u32.wrap (bits .xor .u32 (bits .xor .u32 ((Sha.rotr s.a 2).toNat : Int) ((Sha.rotr s.a 13).toNat : Int)) ((Sha.rotr s.a 22).toNat : Int) +
    bits .xor .u32 (bits .xor .u32 (bits .and .u32 (s.a.toNat : Int) (s.b.toNat : Int)) (bits .and .u32 (s.a.toNat : Int) (s.c.toNat : Int))) (bits .and .u32 (s.b.toNat : Int) (s.c.toNat : Int))) = ((Sha.t2 s).toNat : Int) := by
  rw [S0_eq]
  exact t2_eq s
set_option maxHeartbeats 1000000 in
theorem rcompress_fn (s : Sha.S8) (l : List UInt8) (hl : l.length = 64) (h0 : Heap) (T : Tab h0) :
    Fx Tryz.prog 103 #[.agg (s.list.map u32v).toArray, .agg (l.map u8v).toArray] h0 fun v h' => v = .agg ((Sha.compress s l).list.map u32v).toArray ∧ ExtH h0 h' := by
  refine fn_of 192 Tryz.func103 rfl (by kernel_rfl) rfl (by simp) ?_
  refine cw_seq (cw_region rfl ?_)
  conv => whnf
  intro h1 n1
  conv => whnf
  intro h2 n2
  conv => whnf
  intro h3 n3
  refine cw_seq (cw_region rfl ?_)
  conv => whnf
  intro h7 n7
  have z1 := n1.size; have z2 := n2.size; have z3 := n3.size; have z7 := n7.size
  have c : RC h0 h0.size h1.size h2.size h3.size s l (wcells l 0) h7 := by
    refine ⟨⟨by omega, by omega, by omega, by omega, by omega, by omega, by omega⟩, ?_, ?_, ?_, ?_, ?_⟩
    · exact ((n1.ext.trans n2.ext).trans (n3.ext.trans n7.ext))
    · exact n7.ext.blk (n3.ext.blk (n2.ext.blk n1.blk))
    · exact n7.ext.blk (n3.ext.blk n2.blk)
    · exact n7.ext.blk n3.blk
    · exact n7.blk
  generalize h1.size = bb at *; generalize h2.size = rb at *; generalize h3.size = wb at *
  generalize hhb : h0.size = hb at *
  clear n1 n2 n3 n7 z1 z2 z3 z7
  -- the sixteen words of the block
  refine cw_seq (cw_seq (cw_region rfl ?_))
  refine cw_block ?_
  refine cw_loop (S := Nat) (fun t => [(2, .pointer (some ⟨hb, 0, none⟩)), (3, .pointer (some ⟨bb, 0, none⟩)), (4, .pointer (some ⟨rb, 0, none⟩)), (5, .pointer (some ⟨wb, 0, none⟩)), (6, .int .i64 (t : Int))])
    (fun t h => t ≤ 16 ∧ RC h0 hb bb rb wb s l (wcells l t) h) (fun t => 16 - t) 0 ⟨rfl, rfl, rfl, rfl, rfl, trivial⟩ ⟨by omega, c⟩ ?_
  clear c h1 h2 h3 h7
  rintro t h ⟨ht, c⟩
  refine cw_seq (cw_seq (cw_region rfl ?_))
  conv => whnf
  by_cases hlt : t < 16
  · refine cw_yes rfl (by omega) (cw_skip ?_)
    refine cw_seq (cw_block ?_)
    refine cw_drawn (by kernel_rfl) 31 (fun _ => false) (List.range 31) (by kernel_rfl) rfl ?_
    conv => whnf
    have rB : ∀ (i : Int) (n : Nat), i = n → n < 64 → rd h ⟨bb, 0 + i.toNat, none⟩ = some (u8v (l.getD n 0)) := fun i n e hn => by
      subst e
      refine c.B.rd ?_
      rw [show 0 + ((n : Int)).toNat = n by omega]
      exact map_get u8v l n 0 (by omega)
    have e0 := i64_eq (4 * (t : Int)) (4 * t) (by omega) (by omega)
    have e1 := i64_eq (IntKind.i64.wrap (4 * (t : Int)) + 1) (4 * t + 1) (by omega) (by omega)
    have e2 := i64_eq (IntKind.i64.wrap (4 * (t : Int)) + 2) (4 * t + 2) (by omega) (by omega)
    have e3 := i64_eq (IntKind.i64.wrap (4 * (t : Int)) + 3) (4 * t + 3) (by omega) (by omega)
    refine ⟨⟨by omega, by omega⟩, ?_⟩
    conv => whnf
    refine ⟨_, rB _ _ e0 (by omega), ?_⟩
    conv => whnf
    refine ⟨by decide, ?_⟩
    conv => whnf
    refine ⟨⟨by omega, by omega⟩, ?_⟩
    conv => whnf
    refine ⟨_, rB _ _ e1 (by omega), ?_⟩
    conv => whnf
    refine ⟨by decide, ?_⟩
    conv => whnf
    refine ⟨⟨by omega, by omega⟩, ?_⟩
    conv => whnf
    refine ⟨_, rB _ _ e2 (by omega), ?_⟩
    conv => whnf
    refine ⟨by decide, ?_⟩
    conv => whnf
    refine ⟨⟨by omega, by omega⟩, ?_⟩
    conv => whnf
    refine ⟨_, rB _ _ e3 (by omega), ?_⟩
    conv => whnf
    refine ⟨⟨by omega, by omega⟩, ?_⟩
    conv => whnf
    intro h' x'
    conv => whnf
    refine ⟨_, _, (c.more x').W, by simp [wcells, Sha.words_length]; omega, ?_⟩
    intro h'' w
    have w := w.cast (l' := wcells l (t + 1)) (by
      rw [← wcells_set l t hlt]
      exact congr (congrArg (List.set (wcells l t)) (show 0 + ((t : Int)).toNat = t by omega)) (congrArg (Value.int .u32) (be_eq _ _ _ _)))
    refine cw_region rfl ?_
    exact ⟨t + 1, ⟨rfl, rfl, rfl, rfl, slot_i64 _ _ (by omega) (by omega), trivial⟩, ⟨by omega, (c.more x').wrote w rfl⟩, by omega⟩
  · refine cw_no rfl (by omega) (cw_exit ?_)
    have t16 : t = 16 := by omega
    subst t16
    -- the forty-eight words behind them
    refine cw_seq (cw_seq (cw_region rfl ?_))
    refine cw_block ?_
    refine cw_loop (S := Nat) (fun t => [(2, .pointer (some ⟨hb, 0, none⟩)), (4, .pointer (some ⟨rb, 0, none⟩)), (5, .pointer (some ⟨wb, 0, none⟩)), (7, .int .i64 ((16 + t : Nat) : Int))])
      (fun t h => t ≤ 48 ∧ RC h0 hb bb rb wb s l (vcells l t) h) (fun t => 48 - t) 0 ⟨rfl, rfl, rfl, rfl, trivial⟩ ⟨by omega, vcells_zero l ▸ c⟩ ?_
    clear c h hlt ht
    rintro t h ⟨ht, c⟩
    refine cw_seq (cw_seq (cw_region rfl ?_))
    conv => whnf
    by_cases hlt : t < 48
    · refine cw_yes rfl (by omega) (cw_skip ?_)
      have rW : ∀ (h : Heap), RC h0 hb bb rb wb s l (vcells l t) h → ∀ (i : Int) (n : Nat), i = n → n < 16 + t → rd h ⟨wb, 0 + i.toNat, none⟩ = some (u32v ((Sha.ext (Sha.words l 16) t).getD n 0)) := fun h c i n e hn => by
        subst e
        refine c.W.rd ?_
        rw [show 0 + ((n : Int)).toNat = n by omega]
        unfold vcells
        rw [List.getElem?_append_left (by simp [Sha.ext_length, Sha.words_length]; omega)]
        exact map_get u32v _ n 0 (by simp [Sha.ext_length, Sha.words_length]; omega)
      have i15 := i64_eq (((16 + t : Nat) : Int) - 15) (16 + t - 15) (by omega) (by omega)
      have i2 := i64_eq (((16 + t : Nat) : Int) - 2) (16 + t - 2) (by omega) (by omega)
      have i16 := i64_eq (((16 + t : Nat) : Int) - 16) (16 + t - 16) (by omega) (by omega)
      have i7 := i64_eq (((16 + t : Nat) : Int) - 7) (16 + t - 7) (by omega) (by omega)
      refine cw_seq (cw_block (cw_seq ?_))
      refine cw_drawn (by kernel_rfl) 9 (fun _ => false) (List.range 9) (by kernel_rfl) rfl ?_
      conv => whnf
      refine ⟨⟨by omega, by omega⟩, ?_⟩
      conv => whnf
      refine ⟨_, rW h c _ _ i15 (by omega), ?_⟩
      conv => whnf
      refine ⟨⟨by omega, by omega⟩, ?_⟩
      conv => whnf
      refine ⟨_, rW h c _ _ i2 (by omega), ?_⟩
      conv => whnf
      intro h1 e1
      replace c := c.more e1
      refine cw_seq (cw_region rfl ?_)
      conv => whnf
      refine ⟨_, rfl, _, rotr_fn _ 7 (by omega) (by omega) _, ?_⟩
      rintro _ _ ⟨rfl, rfl⟩
      conv => whnf
      refine ⟨_, rfl, _, rotr_fn _ 18 (by omega) (by omega) _, ?_⟩
      rintro _ _ ⟨rfl, rfl⟩
      conv => whnf
      refine ⟨by decide, ?_⟩
      refine cw_keep [(2, .pointer (some ⟨hb, 0, none⟩)), (4, .pointer (some ⟨rb, 0, none⟩)), (5, .pointer (some ⟨wb, 0, none⟩)), (7, .int .i64 ((16 + t : Nat) : Int)),
        (9, u32v ((Sha.ext (Sha.words l 16) t).getD (16 + t - 2) 0)), (10, u32v (Sha.s0 ((Sha.ext (Sha.words l 16) t).getD (16 + t - 15) 0)))]
        ⟨rfl, rfl, rfl, rfl, rfl, congrArg (fun i => some (Value.int .u32 i)) (s0_eq _), trivial⟩ ?_
      refine cw_seq (cw_region rfl ?_)
      conv => whnf
      refine ⟨_, rfl, _, rotr_fn _ 17 (by omega) (by omega) _, ?_⟩
      rintro _ _ ⟨rfl, rfl⟩
      conv => whnf
      refine ⟨_, rfl, _, rotr_fn _ 19 (by omega) (by omega) _, ?_⟩
      rintro _ _ ⟨rfl, rfl⟩
      conv => whnf
      refine ⟨by decide, ?_⟩
      refine cw_keep [(2, .pointer (some ⟨hb, 0, none⟩)), (4, .pointer (some ⟨rb, 0, none⟩)), (5, .pointer (some ⟨wb, 0, none⟩)), (7, .int .i64 ((16 + t : Nat) : Int)),
        (10, u32v (Sha.s0 ((Sha.ext (Sha.words l 16) t).getD (16 + t - 15) 0))), (11, u32v (Sha.s1 ((Sha.ext (Sha.words l 16) t).getD (16 + t - 2) 0)))]
        ⟨rfl, rfl, rfl, rfl, rfl, congrArg (fun i => some (Value.int .u32 i)) (s1_eq _), trivial⟩ ?_
      refine cw_drawn (by kernel_rfl) 15 (fun _ => false) (List.range 15) (by kernel_rfl) rfl ?_
      conv => whnf
      refine ⟨⟨by omega, by omega⟩, ?_⟩
      conv => whnf
      refine ⟨_, rW _ c _ _ i7 (by omega), ?_⟩
      conv => whnf
      refine ⟨⟨by omega, by omega⟩, ?_⟩
      conv => whnf
      refine ⟨_, rW _ c _ _ i16 (by omega), ?_⟩
      conv => whnf
      refine ⟨⟨by omega, by omega⟩, ?_⟩
      conv => whnf
      intro h2 e2
      conv => whnf
      refine ⟨_, _, (c.more e2).W, by simp [vcells, Sha.ext_length, Sha.words_length]; omega, ?_⟩
      intro h3 w
      have w := w.cast (l' := vcells l (t + 1)) (by
        rw [← vcells_set l t hlt]
        exact congr (congrArg (List.set (vcells l t)) (show 0 + (((16 + t : Nat) : Int)).toNat = 16 + t by omega)) (next_eq' _ _ _ (next_eq _ _ _ _)))
      refine cw_region rfl ?_
      exact ⟨t + 1, ⟨rfl, rfl, rfl, slot_i64 _ _ (by omega) (by omega), trivial⟩, ⟨by omega, (c.more e2).wrote w rfl⟩, by omega⟩
    · refine cw_no rfl (by omega) (cw_exit ?_)
      have t48 : t = 48 := by omega
      subst t48
      rw [wcells_sched] at c
      -- the state
      refine cw_seq (cw_region rfl ?_)
      conv => whnf
      refine ⟨_, by rfl, c.H.all, ?_⟩
      conv => whnf
      intro h1 n1
      conv => whnf
      refine ⟨_, _, n1.blk, ⟨Nat.le_refl 8, by rfl, by simp [u32v, Value.oneCell', Sha.S8.list]⟩, ?_⟩
      intro h2 w2
      replace c : RS h0 hb bb rb wb h.size s l ((Sha.sched l).map u32v) ((Sha.rounds (Sha.sched l) s 0).list.map u32v) h2 := by
        have lb := c.lb
        have l1 := c.H.lt; have l2 := c.B.lt; have l3 := c.R.lt; have l5 := c.W.lt
        have k := c.more n1.ext
        exact ⟨⟨c.lb, ⟨by rw [w2.size]; exact k.ext.size, fun b hb' => by rw [w2.block b (by have := c.ext.size; omega)]; exact k.ext.block b hb'⟩, w2.blk k.H (by omega), w2.blk k.B (by omega), w2.blk k.R (by omega), w2.blk k.W (by omega)⟩, l5, w2.new⟩
      generalize h.size = sb at *
      clear n1 w2 ht hlt h1
      refine cw_seq (cw_seq (cw_region rfl ?_))
      refine cw_block ?_
      refine cw_loop (S := Nat) (fun t => [(2, .pointer (some ⟨hb, 0, none⟩)), (4, .pointer (some ⟨rb, 0, none⟩)), (5, .pointer (some ⟨wb, 0, none⟩)), (12, .pointer (some ⟨sb, 0, none⟩)), (13, .int .i64 (t : Int))])
        (fun t h => t ≤ 64 ∧ RS h0 hb bb rb wb sb s l ((Sha.sched l).map u32v) ((Sha.rounds (Sha.sched l) s t).list.map u32v) h) (fun t => 64 - t) 0 ⟨rfl, rfl, rfl, rfl, rfl, trivial⟩ ⟨by omega, c⟩ ?_
      clear c h h2
      rintro t h ⟨ht, c⟩
      refine cw_seq (cw_seq (cw_region rfl ?_))
      conv => whnf
      by_cases hlt : t < 64
      · refine cw_yes rfl (by omega) (cw_skip ?_)
        generalize hst : Sha.rounds (Sha.sched l) s t = st at *
        have rS : ∀ (h : Heap), RS h0 hb bb rb wb sb s l ((Sha.sched l).map u32v) (st.list.map u32v) h → ∀ (n : Nat) (v : Value), (st.list.map u32v)[n]? = some v → rd h ⟨sb, n, none⟩ = some v := fun h c n v hv => c.S.rd hv
        refine cw_seq (cw_block (cw_seq ?_))
        refine cw_drawn (by kernel_rfl) 5 (fun _ => false) (List.range 5) (by kernel_rfl) rfl ?_
        conv => whnf
        refine ⟨⟨by decide, by decide⟩, ?_⟩
        conv => whnf
        refine ⟨_, rS h c 0 (u32v st.a) rfl, ?_⟩
        conv => whnf
        refine ⟨⟨by decide, by decide⟩, ?_⟩
        conv => whnf
        refine ⟨_, rS h c 4 (u32v st.e) rfl, ?_⟩
        conv => whnf
        intro h1 e1
        replace c := c.more e1
        have T1 := T.more c.c.ext
        refine cw_seq ?_
        refine cw_drawn (by kernel_rfl) 30 (fun _ => false) (List.range 30) (by kernel_rfl) rfl ?_
        conv => whnf
        refine ⟨⟨by decide, by decide⟩, ?_⟩
        conv => whnf
        refine ⟨_, rS _ c 7 (u32v st.h) rfl, ?_⟩
        conv => whnf
        refine ⟨_, rfl, _, (rotr_fn st.e 6 (by omega) (by omega)).q _, ?_⟩
        conv => whnf
        refine ⟨_, rfl, _, (rotr_fn st.e 11 (by omega) (by omega)).q _, ?_⟩
        conv => whnf
        refine ⟨_, rfl, _, (rotr_fn st.e 25 (by omega) (by omega)).q _, ?_⟩
        conv => whnf
        refine ⟨⟨by decide, by decide⟩, ?_⟩
        conv => whnf
        refine ⟨_, rS _ c 5 (u32v st.f) rfl, ?_⟩
        conv => whnf
        refine ⟨⟨by decide, by decide⟩, ?_⟩
        conv => whnf
        refine ⟨_, rS _ c 6 (u32v st.g) rfl, ?_⟩
        conv => whnf
        refine ⟨⟨by omega, by omega⟩, ?_⟩
        conv => whnf
        refine ⟨u32v (Sha.K.getD t 0), by
          have := T1 t _ (map_get u32v Sha.K t 0 hlt)
          rwa [show 0 + t = 0 + ((t : Int)).toNat by omega] at this, ?_⟩
        conv => whnf
        refine ⟨⟨by omega, by omega⟩, ?_⟩
        conv => whnf
        refine ⟨u32v ((Sha.sched l).getD t 0), c.c.W.rd (by rw [show 0 + ((t : Int)).toNat = t by omega]; exact map_get u32v _ t 0 (by rw [Sha.sched_length]; exact hlt)), ?_⟩
        conv => whnf
        intro h2 e2
        replace c := c.more e2
        refine cw_keep [(2, .pointer (some ⟨hb, 0, none⟩)), (4, .pointer (some ⟨rb, 0, none⟩)), (5, .pointer (some ⟨wb, 0, none⟩)), (12, .pointer (some ⟨sb, 0, none⟩)), (13, .int .i64 (t : Int)),
          (14, u32v st.a), (15, u32v st.e), (16, u32v (Sha.t1 st (Sha.K.getD t 0) ((Sha.sched l).getD t 0)))]
          ⟨rfl, rfl, rfl, rfl, rfl, rfl, rfl, congrArg (fun i => some (Value.int .u32 i)) (t1_eq' st _ _), trivial⟩ ?_
        refine cw_seq ?_
        refine cw_drawn (by kernel_rfl) 24 (fun _ => false) (List.range 24) (by kernel_rfl) rfl ?_
        conv => whnf
        refine ⟨_, rfl, _, (rotr_fn st.a 2 (by omega) (by omega)).q _, ?_⟩
        conv => whnf
        refine ⟨_, rfl, _, (rotr_fn st.a 13 (by omega) (by omega)).q _, ?_⟩
        conv => whnf
        refine ⟨_, rfl, _, (rotr_fn st.a 22 (by omega) (by omega)).q _, ?_⟩
        conv => whnf
        refine ⟨⟨by decide, by decide⟩, ?_⟩
        conv => whnf
        refine ⟨_, rS _ c 1 (u32v st.b) rfl, ?_⟩
        conv => whnf
        refine ⟨⟨by decide, by decide⟩, ?_⟩
        conv => whnf
        refine ⟨_, rS _ c 2 (u32v st.c) rfl, ?_⟩
        conv => whnf
        refine ⟨⟨by decide, by decide⟩, ?_⟩
        conv => whnf
        refine ⟨_, rS _ c 1 (u32v st.b) rfl, ?_⟩
        conv => whnf
        refine ⟨⟨by decide, by decide⟩, ?_⟩
        conv => whnf
        refine ⟨_, rS _ c 2 (u32v st.c) rfl, ?_⟩
        conv => whnf
        intro h3 e3
        replace c := c.more e3
        refine cw_keep [(2, .pointer (some ⟨hb, 0, none⟩)), (4, .pointer (some ⟨rb, 0, none⟩)), (5, .pointer (some ⟨wb, 0, none⟩)), (12, .pointer (some ⟨sb, 0, none⟩)), (13, .int .i64 (t : Int)),
          (14, u32v st.a), (15, u32v st.e), (16, u32v (Sha.t1 st (Sha.K.getD t 0) ((Sha.sched l).getD t 0))), (17, u32v (Sha.t2 st))]
          ⟨rfl, rfl, rfl, rfl, rfl, rfl, rfl, rfl, congrArg (fun i => some (Value.int .u32 i)) (t2_eq' st), trivial⟩ ?_
        refine cw_region rfl ?_
        conv => whnf
        refine ⟨⟨by decide, by decide⟩, ?_⟩
        conv => whnf
        refine ⟨_, rS _ c 1 (u32v st.b) rfl, ?_⟩
        conv => whnf
        refine ⟨⟨by decide, by decide⟩, ?_⟩
        conv => whnf
        refine ⟨_, rS _ c 2 (u32v st.c) rfl, ?_⟩
        conv => whnf
        refine ⟨⟨by decide, by decide⟩, ?_⟩
        conv => whnf
        refine ⟨_, rS _ c 3 (u32v st.d) rfl, ?_⟩
        conv => whnf
        refine ⟨⟨by decide, by decide⟩, ?_⟩
        conv => whnf
        refine ⟨_, rS _ c 5 (u32v st.f) rfl, ?_⟩
        conv => whnf
        refine ⟨⟨by decide, by decide⟩, ?_⟩
        conv => whnf
        refine ⟨_, rS _ c 6 (u32v st.g) rfl, ?_⟩
        conv => whnf
        generalize hk : Sha.K.getD t 0 = kt at *
        generalize hw : (Sha.sched l).getD t 0 = wt at *
        refine ⟨_, rfl, #[.int .u32 (IntKind.u32.wrap (((Sha.t1 st kt wt).toNat : Int) + ((Sha.t2 st).toNat : Int))), u32v st.a, u32v st.b, u32v st.c, .int .u32 (IntKind.u32.wrap ((st.d.toNat : Int) + ((Sha.t1 st kt wt).toNat : Int))), u32v st.e, u32v st.f, u32v st.g], fun w => by kernel_rfl, ?_⟩
        rw [wrap_add32, wrap_add32]
        conv => whnf
        refine ⟨_, _, c.S, ⟨Nat.le_refl 8, by rfl, by simp [u32v, Value.oneCell']⟩, ?_⟩
        intro h4 w4
        have w4 := w4.cast (l' := (Sha.rounds (Sha.sched l) s (t + 1)).list.map u32v) (by
          simp only [Sha.rounds, hst, hk, hw]
          rfl)
        refine cw_region rfl ?_
        exact ⟨t + 1, ⟨rfl, rfl, rfl, rfl, slot_i64 _ _ (by omega) (by omega), trivial⟩, ⟨by omega, c.wrote w4 rfl⟩, by omega⟩
      · refine cw_no rfl (by omega) (cw_exit ?_)
        have t64 : t = 64 := by omega
        subst t64
        generalize hr : Sha.rounds (Sha.sched l) s 64 = r at *
        -- the sum
        refine cw_seq (cw_seq (cw_region rfl ?_))
        refine cw_block ?_
        refine cw_loop (S := Nat) (fun t => [(2, .pointer (some ⟨hb, 0, none⟩)), (4, .pointer (some ⟨rb, 0, none⟩)), (12, .pointer (some ⟨sb, 0, none⟩)), (18, .int .i64 (t : Int))])
          (fun t h => t ≤ 8 ∧ RS h0 hb bb rb wb sb s l ((Sha.sched l).map u32v) (acells r s t) h) (fun t => 8 - t) 0 ⟨rfl, rfl, rfl, rfl, trivial⟩ ⟨by omega, c⟩ ?_
        clear c h ht hlt
        rintro t h ⟨ht, c⟩
        refine cw_seq (cw_seq (cw_region rfl ?_))
        conv => whnf
        by_cases hlt : t < 8
        · refine cw_yes rfl (by omega) (cw_skip ?_)
          refine cw_seq (cw_block ?_)
          refine cw_drawn (by kernel_rfl) 9 (fun _ => false) (List.range 9) (by kernel_rfl) rfl ?_
          conv => whnf
          refine ⟨⟨by omega, by omega⟩, ?_⟩
          conv => whnf
          refine ⟨u32v (r.list.getD t 0), c.S.rd (by rw [show 0 + ((t : Int)).toNat = t by omega]; exact acells_get r s t hlt), ?_⟩
          conv => whnf
          refine ⟨⟨by omega, by omega⟩, ?_⟩
          conv => whnf
          refine ⟨u32v (s.list.getD t 0), c.c.H.rd (by rw [show 0 + ((t : Int)).toNat = t by omega]; exact map_get u32v _ t 0 (by simpa [Sha.S8.list] using hlt)), ?_⟩
          conv => whnf
          refine ⟨⟨by omega, by omega⟩, ?_⟩
          conv => whnf
          intro h1 e1
          conv => whnf
          refine ⟨_, _, (c.more e1).S, by simp [acells, Sha.S8.list]; omega, ?_⟩
          intro h2 w
          have w := w.cast (l' := acells r s (t + 1)) (by
            rw [← acells_set r s t hlt]
            exact congr (congrArg (List.set (acells r s t)) (show 0 + ((t : Int)).toNat = t by omega)) (congrArg (Value.int .u32) (wrap_add32 _ _)))
          refine cw_region rfl ?_
          exact ⟨t + 1, ⟨rfl, rfl, rfl, slot_i64 _ _ (by omega) (by omega), trivial⟩, ⟨by omega, (c.more e1).wrote w rfl⟩, by omega⟩
        · refine cw_no rfl (by omega) (cw_exit ?_)
          have t8 : t = 8 := by omega
          subst t8
          have ea : acells r s 8 = ((Sha.compress s l).list.map u32v) := by
            subst hr
            rfl
          rw [ea] at c
          refine cw_seq (cw_region rfl ?_)
          conv => whnf
          refine ⟨_, by rfl, c.S.all, ?_⟩
          conv => whnf
          refine ⟨_, _, c.c.R, ⟨Nat.le_refl 8, by rfl, by simp [u32v, Value.oneCell', Sha.S8.list]⟩, ?_⟩
          intro h1 w1
          refine cw_ret ?_
          refine ⟨_, by rfl, w1.new.all, rfl, ?_⟩
          have lb := c.c.lb
          exact ⟨by rw [w1.size]; exact c.c.ext.size, fun b hb' => by rw [w1.block b (by omega)]; exact c.c.ext.block b hb'⟩
theorem rcompress_q (s : Sha.S8) (l : List UInt8) (hl : l.length = 64) (h : Heap) (T : Tab h) : FxQ Tryz.prog 103 #[.agg (s.list.map u32v).toArray, .agg (l.map u8v).toArray] h (.agg ((Sha.compress s l).list.map u32v).toArray) :=
  fun h1 x => rcompress_fn s l hl h1 (T.more x)
end Go.Proofs.YtgecapllodgdeaaGreatDoor
