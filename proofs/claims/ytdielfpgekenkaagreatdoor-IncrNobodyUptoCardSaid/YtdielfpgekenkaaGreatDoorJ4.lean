/-
  The contracts of RotateLeft32, beginning, constants and Compress of package sha.
  The contracts of bytes.Clone, and of package sha's eight, Pad, New and ready.
  The contracts of package sha's Pad, New, ready, take, Clone, Sum.
  The contract of package sha's take.
-/
import Derived.Test.YtdielfpgekenkaaGreatDoorJ2
import Derived.Test.YtdielfpgekenkaaGreatDoorJ3
import Derived.Test.YtdielfpgekenkaaGreatDoorProg
namespace Go.Proofs.YtdielfpgekenkaaGreatDoor
open Go Vm
set_option maxRecDepth 100000
theorem rot_fn (x : UInt32) (k : Int) (s : Nat) (hs : bits .and .u64 (IntKind.u64.wrap k) 31 = s) (h1 : 1 ≤ s) (h2 : s ≤ 31) :
    FxP Tryz.prog 604 #[u32v x, .int .i64 k] (u32v (Sha.rotr x (32 - s))) := by
  intro h
  refine fn_of 17 Tryz.func604 rfl (by kernel_rfl) rfl (by simp) ?_
  refine cw_seq (cw_region rfl ?_)
  conv => whnf
  refine cw_seq (cw_region rfl ?_)
  conv => whnf
  refine cw_seq (cw_region rfl ?_)
  conv => whnf
  rw [hs]
  refine ⟨by omega, ?_⟩
  conv => whnf
  have e : IntKind.u64.wrap (32 - (s : Int)) = ((32 - s : Nat) : Int) := by simp [IntKind.wrap, IntKind.bits, IntKind.signed]; omega
  refine ⟨?_, ?_⟩
  · show 0 ≤ IntKind.u64.wrap (32 - (s : Int))
    omega
  conv => whnf
  refine cw_ret ?_
  refine ⟨?_, rfl⟩
  show Value.int .u32 (bits .or .u32 (IntKind.u32.wrap ((x.toNat : Int) * 2 ^ min ((s : Int)).toNat 32)) ((x.toNat : Int) / 2 ^ min (IntKind.u64.wrap (32 - (s : Int))).toNat 32)) = _
  rw [e, show min ((s : Int)).toNat 32 = s by omega, show min (((32 - s : Nat) : Int)).toNat 32 = 32 - s by omega, rot_eq x s h1 h2]
  rfl
theorem rot (x : UInt32) (n : Nat) (k : Int) (hs : bits .and .u64 (IntKind.u64.wrap k) 31 = ((32 - n : Nat) : Int)) (h1 : 1 ≤ n) (h2 : n ≤ 31) :
    FxP Tryz.prog 604 #[u32v x, .int .i64 k] (u32v (Sha.rotr x n)) := by
  have := rot_fn x k (32 - n) hs (by omega) (by omega)
  rwa [show 32 - (32 - n) = n by omega] at this
theorem beginning_fn (h : Heap) : Fx Tryz.prog 427 #[] h fun v h' => v = .agg (Sha.H0.list.map u32v).toArray ∧ ExtH h h' := by
  refine fn_of 2 Tryz.func427 rfl (by kernel_rfl) rfl (by simp) ?_
  refine cw_seq (cw_region rfl ?_)
  conv => whnf
  intro h1 n1
  refine cw_seq (cw_region rfl ?_)
  conv => whnf
  refine ⟨_, rfl, (Sha.H0.list.map u32v).toArray, fun w => by kernel_rfl, ?_⟩
  conv => whnf
  refine ⟨_, _, n1.blk, ⟨by decide, by decide, by decide⟩, ?_⟩
  intro h2 w2
  refine cw_ret ?_
  refine ⟨_, ?_, w2.new.all, ?_⟩
  · decide
  refine ⟨?_, ?_⟩
  · rfl
  exact ⟨by rw [w2.size, n1.size]; omega, fun b hb => by rw [w2.block b (by omega), n1.block b hb]⟩
theorem constants_fn (h : Heap) : Fx Tryz.prog 603 #[] h fun v h' => v = .agg (Sha.K.map u32v).toArray ∧ ExtH h h' := by
  refine fn_of 2 Tryz.func603 rfl (by kernel_rfl) rfl (by simp) ?_
  refine cw_seq (cw_region rfl ?_)
  conv => whnf
  intro h1 n1
  refine cw_seq (cw_region rfl ?_)
  conv => whnf
  refine ⟨_, rfl, (Sha.K.map u32v).toArray, fun w => by kernel_rfl, ?_⟩
  conv => whnf
  refine ⟨_, _, n1.blk, ⟨by decide, by decide, by decide⟩, ?_⟩
  intro h2 w2
  refine cw_ret ?_
  refine ⟨_, ?_, w2.new.all, ?_⟩
  · decide
  refine ⟨?_, ?_⟩
  · rfl
  exact ⟨by rw [w2.size, n1.size]; omega, fun b hb => by rw [w2.block b (by omega), n1.block b hb]⟩
def z32 : Value := u32v 0
theorem zeros64 : (List.replicate 64 z32).length = 64 := by simp
/-- the blocks of a call of Compress -/
structure CC (h0 : Heap) (hb bb rb kb wb : Nat) (s : Sha.S8) (l : List UInt8) (wl : List Value) (h : Heap) : Prop where
  lb : h0.size ≤ hb ∧ h0.size ≤ bb ∧ h0.size ≤ rb ∧ h0.size ≤ kb ∧ h0.size ≤ wb ∧ hb < wb ∧ bb < wb ∧ rb < wb ∧ kb < wb ∧ rb ≠ hb ∧ rb ≠ bb ∧ rb ≠ kb
  ext : ExtH h0 h
  H : Blk h hb (s.list.map u32v) 598
  B : Blk h bb (l.map u8v) 715
  R : Blk h rb (List.replicate 8 z32) 598
  K : Blk h kb (Sha.K.map u32v) 770
  W : Blk h wb wl 770
theorem CC.more {h0 : Heap} {hb bb rb kb wb : Nat} {s : Sha.S8} {l : List UInt8} {wl : List Value} {h h' : Heap} (c : CC h0 hb bb rb kb wb s l wl h) (e : ExtH h h') : CC h0 hb bb rb kb wb s l wl h' :=
  ⟨c.lb, c.ext.trans e, e.blk c.H, e.blk c.B, e.blk c.R, e.blk c.K, e.blk c.W⟩
theorem CC.wrote {h0 : Heap} {hb bb rb kb wb : Nat} {s : Sha.S8} {l : List UInt8} {wl wl' : List Value} {h h' : Heap} {t : TypeId} (c : CC h0 hb bb rb kb wb s l wl h) (e : Wrote h h' wb wl' t) (ht : t = 770) : CC h0 hb bb rb kb wb s l wl' h' := by
  subst ht
  have := c.lb
  exact ⟨c.lb, ⟨by rw [e.size]; exact c.ext.size, fun b hb' => by rw [e.block b (by omega)]; exact c.ext.block b hb'⟩, e.blk c.H (by omega), e.blk c.B (by omega), e.blk c.R (by omega), e.blk c.K (by omega), e.new⟩
theorem set_snoc {α : Type} (xs : List α) (m : Nat) (z v : α) (n : Nat) (hn : xs.length = n) (hm : 0 < m) : (xs ++ List.replicate m z).set n v = (xs ++ [v]) ++ List.replicate (m - 1) z := by
  subst hn
  obtain ⟨m, rfl⟩ : ∃ k, m = k + 1 := ⟨m - 1, by omega⟩
  simp [List.replicate_succ]
theorem map_get {α : Type} (f : α → Value) (l : List α) (i : Nat) (d : α) (h : i < l.length) : (l.map f)[i]? = some (f (l.getD i d)) := by
  simp [h]
def wcells (l : List UInt8) (t : Nat) : List Value := (Sha.words l t).map u32v ++ List.replicate (64 - t) z32
theorem wcells_set (l : List UInt8) (t : Nat) (ht : t < 16) : (wcells l t).set t (u32v (Sha.word l t)) = wcells l (t + 1) := by
  unfold wcells
  rw [set_snoc _ _ _ _ _ (by simp [Sha.words_length]) (by omega)]
  simp only [Sha.words, List.map_append, List.map_cons, List.map_nil]
  rw [show 64 - t - 1 = 64 - (t + 1) by omega]
def vcells (l : List UInt8) (t : Nat) : List Value := (Sha.ext (Sha.words l 16) t).map u32v ++ List.replicate (48 - t) z32
theorem vcells_zero (l : List UInt8) : wcells l 16 = vcells l 0 := by simp [wcells, vcells, Sha.ext]
theorem vcells_set (l : List UInt8) (t : Nat) (ht : t < 48) : (vcells l t).set (16 + t) (u32v (Sha.next (Sha.ext (Sha.words l 16) t) (16 + t))) = vcells l (t + 1) := by
  unfold vcells
  rw [set_snoc _ _ _ _ _ (by simp [Sha.ext_length, Sha.words_length]) (by omega)]
  simp only [Sha.ext, List.map_append, List.map_cons, List.map_nil]
  rw [show 48 - t - 1 = 48 - (t + 1) by omega]
/-- the same, with the state's block -/
structure CS (h0 : Heap) (hb bb rb kb wb sb : Nat) (s : Sha.S8) (l : List UInt8) (wl sl : List Value) (h : Heap) : Prop where
  c : CC h0 hb bb rb kb wb s l wl h
  lt : wb < sb
  S : Blk h sb sl 598
theorem CS.more {h0 : Heap} {hb bb rb kb wb sb : Nat} {s : Sha.S8} {l : List UInt8} {wl sl : List Value} {h h' : Heap} (c : CS h0 hb bb rb kb wb sb s l wl sl h) (e : ExtH h h') : CS h0 hb bb rb kb wb sb s l wl sl h' :=
  ⟨c.c.more e, c.lt, e.blk c.S⟩
theorem CS.wrote {h0 : Heap} {hb bb rb kb wb sb : Nat} {s : Sha.S8} {l : List UInt8} {wl sl sl' : List Value} {h h' : Heap} {t : TypeId} (c : CS h0 hb bb rb kb wb sb s l wl sl h) (e : Wrote h h' sb sl' t) (ht : t = 598) : CS h0 hb bb rb kb wb sb s l wl sl' h' := by
  subst ht
  have := c.c.lb
  have := c.lt
  exact ⟨⟨c.c.lb, ⟨by rw [e.size]; exact c.c.ext.size, fun b hb' => by rw [e.block b (by omega)]; exact c.c.ext.block b hb'⟩, e.blk c.c.H (by omega), e.blk c.c.B (by omega), e.blk c.c.R (by omega), e.blk c.c.K (by omega), e.blk c.c.W (by omega)⟩, c.lt, e.new⟩
theorem wcells_sched (l : List UInt8) : vcells l 48 = (Sha.sched l).map u32v := by simp [vcells, Sha.sched]
/-- the first i words of a sum -/
def acells (r s : Sha.S8) (i : Nat) : List Value := ((Sha.add8 r s).list.map u32v).take i ++ (r.list.map u32v).drop i
theorem acells_set (r s : Sha.S8) (i : Nat) (hi : i < 8) : (acells r s i).set i (u32v (r.list.getD i 0 + s.list.getD i 0)) = acells r s (i + 1) := by
  have : i = 0 ∨ i = 1 ∨ i = 2 ∨ i = 3 ∨ i = 4 ∨ i = 5 ∨ i = 6 ∨ i = 7 := by omega
  rcases this with rfl | rfl | rfl | rfl | rfl | rfl | rfl | rfl <;> rfl
theorem acells_get (r s : Sha.S8) (i : Nat) (hi : i < 8) : (acells r s i)[i]? = some (u32v (r.list.getD i 0)) := by
  have : i = 0 ∨ i = 1 ∨ i = 2 ∨ i = 3 ∨ i = 4 ∨ i = 5 ∨ i = 6 ∨ i = 7 := by omega
  rcases this with rfl | rfl | rfl | rfl | rfl | rfl | rfl | rfl <;> rfl
set_option maxHeartbeats 1000000 in
theorem compress_fn (s : Sha.S8) (l : List UInt8) (hl : l.length = 64) (h0 : Heap) :
    Fx Tryz.prog 528 #[.agg (s.list.map u32v).toArray, .agg (l.map u8v).toArray] h0 fun v h' => v = .agg ((Sha.compress s l).list.map u32v).toArray ∧ ExtH h0 h' := by
  refine fn_of 197 Tryz.func528 rfl (by kernel_rfl) rfl (by simp) ?_
  refine cw_seq (cw_region rfl ?_)
  conv => whnf
  intro h1 n1
  conv => whnf
  intro h2 n2
  conv => whnf
  intro h3 n3
  refine cw_seq (cw_region rfl ?_)
  conv => whnf
  refine ⟨_, rfl, _, constants_fn h3, ?_⟩
  rintro v h4 ⟨rfl, e4⟩
  conv => whnf
  intro h5 n5
  conv => whnf
  refine ⟨_, _, n5.blk, ⟨by decide, by decide, by decide⟩, ?_⟩
  intro h6 w6
  refine cw_seq (cw_region rfl ?_)
  conv => whnf
  intro h7 n7
  have z1 := n1.size; have z2 := n2.size; have z3 := n3.size; have z4 := e4.size; have z5 := n5.size; have z6 := w6.size; have z7 := n7.size
  have c : CC h0 h0.size h1.size h2.size h4.size h6.size s l (wcells l 0) h7 := by
    refine ⟨⟨by omega, by omega, by omega, by omega, by omega, by omega, by omega, by omega, by omega, by omega, by omega, by omega⟩, ?_, ?_, ?_, ?_, ?_, ?_⟩
    · exact ((n1.ext.trans n2.ext).trans (n3.ext.trans e4)).trans ⟨by omega, fun b hb => by rw [n7.block b (by omega), w6.block b (by omega), n5.block b hb]⟩
    · exact n7.ext.blk (w6.blk (n5.ext.blk (e4.blk (n3.ext.blk (n2.ext.blk n1.blk)))) (by omega))
    · exact n7.ext.blk (w6.blk (n5.ext.blk (e4.blk (n3.ext.blk n2.blk))) (by omega))
    · exact n7.ext.blk (w6.blk (n5.ext.blk (e4.blk n3.blk)) (by omega))
    · exact n7.ext.blk w6.new
    · exact n7.blk
  generalize h1.size = bb at *; generalize h2.size = rb at *; generalize h4.size = kb at *; generalize h6.size = wb at *
  generalize hhb : h0.size = hb at *
  clear n1 n2 n3 e4 n5 w6 n7 z1 z2 z3 z4 z5 z6 z7
  -- the sixteen words of the block
  refine cw_seq (cw_seq (cw_region rfl ?_))
  refine cw_block ?_
  refine cw_loop (S := Nat) (fun t => [(2, .pointer (some ⟨hb, 0, none⟩)), (3, .pointer (some ⟨bb, 0, none⟩)), (4, .pointer (some ⟨rb, 0, none⟩)), (5, .pointer (some ⟨kb, 0, none⟩)), (6, .pointer (some ⟨wb, 0, none⟩)), (23, .int .i64 (t : Int))])
    (fun t h => t ≤ 16 ∧ CC h0 hb bb rb kb wb s l (wcells l t) h) (fun t => 16 - t) 0 ⟨rfl, rfl, rfl, rfl, rfl, rfl, trivial⟩ ⟨by omega, c⟩ ?_
  clear c h1 h2 h3 h4 h5 h6 h7
  rintro t h ⟨ht, c⟩
  refine cw_seq (cw_region rfl ?_)
  by_cases hlt : t < 16
  · refine cw_seq (cw_yes rfl (by omega) (cw_skip ?_))
    refine cw_seq (cw_block (cw_seq (cw_region rfl ?_)))
    refine cw_drawn (by kernel_rfl) 31 (fun _ => false) (List.range 31) (by kernel_rfl) rfl ?_
    conv => whnf
    have rB : ∀ (i : Int) (n : Nat), i = n → n < 64 → rd h ⟨bb, 0 + i.toNat, none⟩ = some (u8v (l.getD n 0)) := fun i n e hn => by
      subst e
      refine c.B.rd ?_
      rw [show 0 + ((n : Int)).toNat = n by omega]
      exact map_get u8v l n 0 (by omega)
    have e0 := i64_eq (4 * (t : Int)) (4 * t) (by omega) (by omega)
    have e1 := i64_eq (IntKind.i64.wrap (4 * (t : Int)) + 1) (4 * t + 1) (by omega) (by omega)
    have e2 := i64_eq (IntKind.i64.wrap (4 * (t : Int)) + 2) (4 * t + 2) (by omega) (by omega)
    have e3 := i64_eq (IntKind.i64.wrap (4 * (t : Int)) + 3) (4 * t + 3) (by omega) (by omega)
    refine ⟨⟨by omega, by omega⟩, ?_⟩
    conv => whnf
    refine ⟨_, rB _ _ e0 (by omega), ?_⟩
    conv => whnf
    refine ⟨by decide, ?_⟩
    conv => whnf
    refine ⟨⟨by omega, by omega⟩, ?_⟩
    conv => whnf
    refine ⟨_, rB _ _ e1 (by omega), ?_⟩
    conv => whnf
    refine ⟨by decide, ?_⟩
    conv => whnf
    refine ⟨⟨by omega, by omega⟩, ?_⟩
    conv => whnf
    refine ⟨_, rB _ _ e2 (by omega), ?_⟩
    conv => whnf
    refine ⟨by decide, ?_⟩
    conv => whnf
    refine ⟨⟨by omega, by omega⟩, ?_⟩
    conv => whnf
    refine ⟨_, rB _ _ e3 (by omega), ?_⟩
    conv => whnf
    refine ⟨⟨by omega, by omega⟩, ?_⟩
    conv => whnf
    intro h' x'
    conv => whnf
    refine ⟨_, _, (c.more x').W, by simp [wcells, Sha.words_length]; omega, ?_⟩
    intro h'' w
    have w := w.cast (l' := wcells l (t + 1)) (by
      rw [← wcells_set l t hlt]
      exact congr (congrArg (List.set (wcells l t)) (show 0 + ((t : Int)).toNat = t by omega)) (congrArg (Value.int .u32) (be_eq _ _ _ _)))
    refine cw_region rfl ?_
    exact ⟨t + 1, ⟨rfl, rfl, rfl, rfl, rfl, slot_i64 _ _ (by omega) (by omega), trivial⟩, ⟨by omega, (c.more x').wrote w rfl⟩, by omega⟩
  · refine cw_seq (cw_no rfl (by omega) (cw_exit ?_))
    have t16 : t = 16 := by omega
    subst t16
    -- the forty-eight words behind them
    refine cw_seq (cw_seq (cw_region rfl ?_))
    refine cw_block ?_
    refine cw_loop (S := Nat) (fun t => [(2, .pointer (some ⟨hb, 0, none⟩)), (4, .pointer (some ⟨rb, 0, none⟩)), (5, .pointer (some ⟨kb, 0, none⟩)), (6, .pointer (some ⟨wb, 0, none⟩)), (8, .int .i64 ((16 + t : Nat) : Int))])
      (fun t h => t ≤ 48 ∧ CC h0 hb bb rb kb wb s l (vcells l t) h) (fun t => 48 - t) 0 ⟨rfl, rfl, rfl, rfl, rfl, trivial⟩ ⟨by omega, vcells_zero l ▸ c⟩ ?_
    clear c h hlt ht
    rintro t h ⟨ht, c⟩
    refine cw_seq (cw_seq (cw_region rfl ?_))
    by_cases hlt : t < 48
    · refine cw_yes rfl (by omega) (cw_skip ?_)
      have rW : ∀ (h : Heap), CC h0 hb bb rb kb wb s l (vcells l t) h → ∀ (i : Int) (n : Nat), i = n → n < 16 + t → rd h ⟨wb, 0 + i.toNat, none⟩ = some (u32v ((Sha.ext (Sha.words l 16) t).getD n 0)) := fun h c i n e hn => by
        subst e
        refine c.W.rd ?_
        rw [show 0 + ((n : Int)).toNat = n by omega]
        unfold vcells
        rw [List.getElem?_append_left (by simp [Sha.ext_length, Sha.words_length]; omega)]
        exact map_get u32v _ n 0 (by simp [Sha.ext_length, Sha.words_length]; omega)
      have i15 := i64_eq (((16 + t : Nat) : Int) - 15) (16 + t - 15) (by omega) (by omega)
      have i2 := i64_eq (((16 + t : Nat) : Int) - 2) (16 + t - 2) (by omega) (by omega)
      have i16 := i64_eq (((16 + t : Nat) : Int) - 16) (16 + t - 16) (by omega) (by omega)
      have i7 := i64_eq (((16 + t : Nat) : Int) - 7) (16 + t - 7) (by omega) (by omega)
      refine cw_seq (cw_block (cw_seq ?_))
      refine cw_drawn (by kernel_rfl) 9 (fun _ => false) (List.range 9) (by kernel_rfl) rfl ?_
      conv => whnf
      refine ⟨⟨by omega, by omega⟩, ?_⟩
      conv => whnf
      refine ⟨_, rW h c _ _ i15 (by omega), ?_⟩
      conv => whnf
      refine ⟨⟨by omega, by omega⟩, ?_⟩
      conv => whnf
      refine ⟨_, rW h c _ _ i2 (by omega), ?_⟩
      conv => whnf
      intro h1 e1
      replace c := c.more e1
      refine cw_seq (cw_region rfl ?_)
      conv => whnf
      refine ⟨_, rfl, _, rot _ 7 (-7) (by kernel_rfl) (by omega) (by omega) _, ?_⟩
      rintro _ _ ⟨rfl, rfl⟩
      conv => whnf
      refine ⟨_, rfl, _, rot _ 18 (-18) (by kernel_rfl) (by omega) (by omega) _, ?_⟩
      rintro _ _ ⟨rfl, rfl⟩
      conv => whnf
      refine ⟨by decide, ?_⟩
      refine cw_keep [(2, .pointer (some ⟨hb, 0, none⟩)), (4, .pointer (some ⟨rb, 0, none⟩)), (5, .pointer (some ⟨kb, 0, none⟩)), (6, .pointer (some ⟨wb, 0, none⟩)), (8, .int .i64 ((16 + t : Nat) : Int)),
        (10, u32v ((Sha.ext (Sha.words l 16) t).getD (16 + t - 2) 0)), (11, u32v (Sha.s0 ((Sha.ext (Sha.words l 16) t).getD (16 + t - 15) 0)))]
        ⟨rfl, rfl, rfl, rfl, rfl, rfl, congrArg (fun i => some (Value.int .u32 i)) (s0_eq _), trivial⟩ ?_
      refine cw_seq (cw_region rfl ?_)
      conv => whnf
      refine ⟨_, rfl, _, rot _ 17 (-17) (by kernel_rfl) (by omega) (by omega) _, ?_⟩
      rintro _ _ ⟨rfl, rfl⟩
      conv => whnf
      refine ⟨_, rfl, _, rot _ 19 (-19) (by kernel_rfl) (by omega) (by omega) _, ?_⟩
      rintro _ _ ⟨rfl, rfl⟩
      conv => whnf
      refine ⟨by decide, ?_⟩
      refine cw_keep [(2, .pointer (some ⟨hb, 0, none⟩)), (4, .pointer (some ⟨rb, 0, none⟩)), (5, .pointer (some ⟨kb, 0, none⟩)), (6, .pointer (some ⟨wb, 0, none⟩)), (8, .int .i64 ((16 + t : Nat) : Int)),
        (11, u32v (Sha.s0 ((Sha.ext (Sha.words l 16) t).getD (16 + t - 15) 0))), (12, u32v (Sha.s1 ((Sha.ext (Sha.words l 16) t).getD (16 + t - 2) 0)))]
        ⟨rfl, rfl, rfl, rfl, rfl, rfl, congrArg (fun i => some (Value.int .u32 i)) (s1_eq _), trivial⟩ ?_
      refine cw_drawn (by kernel_rfl) 15 (fun _ => false) (List.range 15) (by kernel_rfl) rfl ?_
      conv => whnf
      refine ⟨⟨by omega, by omega⟩, ?_⟩
      conv => whnf
      refine ⟨_, rW _ c _ _ i16 (by omega), ?_⟩
      conv => whnf
      refine ⟨⟨by omega, by omega⟩, ?_⟩
      conv => whnf
      refine ⟨_, rW _ c _ _ i7 (by omega), ?_⟩
      conv => whnf
      refine ⟨⟨by omega, by omega⟩, ?_⟩
      conv => whnf
      intro h2 e2
      conv => whnf
      refine ⟨_, _, (c.more e2).W, by simp [vcells, Sha.ext_length, Sha.words_length]; omega, ?_⟩
      intro h3 w
      have w := w.cast (l' := vcells l (t + 1)) (by
        rw [← vcells_set l t hlt]
        exact congr (congrArg (List.set (vcells l t)) (show 0 + (((16 + t : Nat) : Int)).toNat = 16 + t by omega)) (congrArg (Value.int .u32) (next_eq _ _ _ _)))
      refine cw_region rfl ?_
      exact ⟨t + 1, ⟨rfl, rfl, rfl, rfl, slot_i64 _ _ (by omega) (by omega), trivial⟩, ⟨by omega, (c.more e2).wrote w rfl⟩, by omega⟩
    · refine cw_no rfl (by omega) (cw_exit ?_)
      have t48 : t = 48 := by omega
      subst t48
      rw [wcells_sched] at c
      -- the state
      refine cw_seq (cw_region rfl ?_)
      conv => whnf
      refine ⟨_, by rfl, c.H.all, ?_⟩
      conv => whnf
      intro h1 n1
      conv => whnf
      refine ⟨_, _, n1.blk, ⟨Nat.le_refl 8, by rfl, by simp [u32v, Value.oneCell', Sha.S8.list]⟩, ?_⟩
      intro h2 w2
      replace c : CS h0 hb bb rb kb wb h.size s l ((Sha.sched l).map u32v) ((Sha.rounds (Sha.sched l) s 0).list.map u32v) h2 := by
        have lb := c.lb
        have l1 := c.H.lt; have l2 := c.B.lt; have l3 := c.R.lt; have l4 := c.K.lt; have l5 := c.W.lt
        have k := c.more n1.ext
        exact ⟨⟨c.lb, ⟨by rw [w2.size]; exact k.ext.size, fun b hb' => by rw [w2.block b (by have := c.ext.size; omega)]; exact k.ext.block b hb'⟩, w2.blk k.H (by omega), w2.blk k.B (by omega), w2.blk k.R (by omega), w2.blk k.K (by omega), w2.blk k.W (by omega)⟩, l5, w2.new⟩
      generalize h.size = sb at *
      clear n1 w2 ht hlt h1
      refine cw_seq (cw_seq (cw_region rfl ?_))
      refine cw_block ?_
      refine cw_loop (S := Nat) (fun t => [(2, .pointer (some ⟨hb, 0, none⟩)), (4, .pointer (some ⟨rb, 0, none⟩)), (5, .pointer (some ⟨kb, 0, none⟩)), (6, .pointer (some ⟨wb, 0, none⟩)), (13, .pointer (some ⟨sb, 0, none⟩)), (102, .int .i64 (t : Int))])
        (fun t h => t ≤ 64 ∧ CS h0 hb bb rb kb wb sb s l ((Sha.sched l).map u32v) ((Sha.rounds (Sha.sched l) s t).list.map u32v) h) (fun t => 64 - t) 0 ⟨rfl, rfl, rfl, rfl, rfl, rfl, trivial⟩ ⟨by omega, c⟩ ?_
      clear c h h2
      rintro t h ⟨ht, c⟩
      refine cw_seq (cw_region rfl ?_)
      by_cases hlt : t < 64
      · refine cw_seq (cw_yes rfl (by omega) (cw_skip ?_))
        generalize hst : Sha.rounds (Sha.sched l) s t = st at *
        have rS : ∀ (h : Heap), CS h0 hb bb rb kb wb sb s l ((Sha.sched l).map u32v) (st.list.map u32v) h → ∀ (n : Nat) (v : Value), (st.list.map u32v)[n]? = some v → rd h ⟨sb, n, none⟩ = some v := fun h c n v hv => c.S.rd hv
        refine cw_seq (cw_block (cw_seq (cw_region rfl ?_)))
        refine cw_seq ?_
        refine cw_drawn (by kernel_rfl) 5 (fun _ => false) (List.range 5) (by kernel_rfl) rfl ?_
        conv => whnf
        refine ⟨⟨by decide, by decide⟩, ?_⟩
        conv => whnf
        refine ⟨_, rS h c 4 (u32v st.e) rfl, ?_⟩
        conv => whnf
        refine ⟨⟨by decide, by decide⟩, ?_⟩
        conv => whnf
        refine ⟨_, rS h c 0 (u32v st.a) rfl, ?_⟩
        conv => whnf
        intro h1 e1
        replace c := c.more e1
        refine cw_seq (cw_region rfl ?_)
        conv => whnf
        refine ⟨_, rfl, _, rot st.e 6 (-6) (by kernel_rfl) (by omega) (by omega) _, ?_⟩
        rintro _ _ ⟨rfl, rfl⟩
        conv => whnf
        refine ⟨_, rfl, _, rot st.e 11 (-11) (by kernel_rfl) (by omega) (by omega) _, ?_⟩
        rintro _ _ ⟨rfl, rfl⟩
        conv => whnf
        refine ⟨_, rfl, _, rot st.e 25 (-25) (by kernel_rfl) (by omega) (by omega) _, ?_⟩
        rintro _ _ ⟨rfl, rfl⟩
        refine cw_keep [(2, .pointer (some ⟨hb, 0, none⟩)), (4, .pointer (some ⟨rb, 0, none⟩)), (5, .pointer (some ⟨kb, 0, none⟩)), (6, .pointer (some ⟨wb, 0, none⟩)), (13, .pointer (some ⟨sb, 0, none⟩)), (102, .int .i64 (t : Int)),
          (14, .int .i64 (t : Int)), (15, u32v st.e), (16, u32v st.a), (17, u32v (Sha.S1 st.e))]
          ⟨rfl, rfl, rfl, rfl, rfl, rfl, rfl, rfl, rfl, congrArg (fun i => some (Value.int .u32 i)) (S1_eq _), trivial⟩ ?_
        refine cw_seq ?_
        refine cw_drawn (by kernel_rfl) 23 (fun _ => false) (List.range 23) (by kernel_rfl) rfl ?_
        conv => whnf
        refine ⟨⟨by decide, by decide⟩, ?_⟩
        conv => whnf
        refine ⟨_, rS _ c 7 (u32v st.h) rfl, ?_⟩
        conv => whnf
        refine ⟨⟨by decide, by decide⟩, ?_⟩
        conv => whnf
        refine ⟨_, rS _ c 5 (u32v st.f) rfl, ?_⟩
        conv => whnf
        refine ⟨⟨by decide, by decide⟩, ?_⟩
        conv => whnf
        refine ⟨_, rS _ c 6 (u32v st.g) rfl, ?_⟩
        conv => whnf
        refine ⟨⟨by omega, by omega⟩, ?_⟩
        conv => whnf
        refine ⟨u32v (Sha.K.getD t 0), c.c.K.rd (by rw [show 0 + ((t : Int)).toNat = t by omega]; exact map_get u32v _ t 0 hlt), ?_⟩
        conv => whnf
        refine ⟨⟨by omega, by omega⟩, ?_⟩
        conv => whnf
        refine ⟨u32v ((Sha.sched l).getD t 0), c.c.W.rd (by rw [show 0 + ((t : Int)).toNat = t by omega]; exact map_get u32v _ t 0 (by rw [Sha.sched_length]; exact hlt)), ?_⟩
        conv => whnf
        intro h2 e2
        replace c := c.more e2
        refine cw_keep [(2, .pointer (some ⟨hb, 0, none⟩)), (4, .pointer (some ⟨rb, 0, none⟩)), (5, .pointer (some ⟨kb, 0, none⟩)), (6, .pointer (some ⟨wb, 0, none⟩)), (13, .pointer (some ⟨sb, 0, none⟩)), (102, .int .i64 (t : Int)),
          (15, u32v st.e), (16, u32v st.a), (18, u32v (Sha.t1 st (Sha.K.getD t 0) ((Sha.sched l).getD t 0)))]
          ⟨rfl, rfl, rfl, rfl, rfl, rfl, rfl, rfl, congrArg (fun i => some (Value.int .u32 i)) (t1_eq _ _ _), trivial⟩ ?_
        refine cw_seq (cw_region rfl ?_)
        conv => whnf
        refine ⟨_, rfl, _, rot st.a 2 (-2) (by kernel_rfl) (by omega) (by omega) _, ?_⟩
        rintro _ _ ⟨rfl, rfl⟩
        conv => whnf
        refine ⟨_, rfl, _, rot st.a 13 (-13) (by kernel_rfl) (by omega) (by omega) _, ?_⟩
        rintro _ _ ⟨rfl, rfl⟩
        conv => whnf
        refine ⟨_, rfl, _, rot st.a 22 (-22) (by kernel_rfl) (by omega) (by omega) _, ?_⟩
        rintro _ _ ⟨rfl, rfl⟩
        refine cw_keep [(2, .pointer (some ⟨hb, 0, none⟩)), (4, .pointer (some ⟨rb, 0, none⟩)), (5, .pointer (some ⟨kb, 0, none⟩)), (6, .pointer (some ⟨wb, 0, none⟩)), (13, .pointer (some ⟨sb, 0, none⟩)), (102, .int .i64 (t : Int)),
          (15, u32v st.e), (16, u32v st.a), (18, u32v (Sha.t1 st (Sha.K.getD t 0) ((Sha.sched l).getD t 0))), (19, u32v (Sha.S0 st.a))]
          ⟨rfl, rfl, rfl, rfl, rfl, rfl, rfl, rfl, rfl, congrArg (fun i => some (Value.int .u32 i)) (S0_eq _), trivial⟩ ?_
        refine cw_seq (cw_region rfl ?_)
        conv => whnf
        refine ⟨⟨by decide, by decide⟩, ?_⟩
        conv => whnf
        refine ⟨_, rS _ c 1 (u32v st.b) rfl, ?_⟩
        conv => whnf
        refine ⟨⟨by decide, by decide⟩, ?_⟩
        conv => whnf
        refine ⟨_, rS _ c 2 (u32v st.c) rfl, ?_⟩
        conv => whnf
        refine ⟨⟨by decide, by decide⟩, ?_⟩
        conv => whnf
        refine ⟨_, rS _ c 1 (u32v st.b) rfl, ?_⟩
        conv => whnf
        refine ⟨⟨by decide, by decide⟩, ?_⟩
        conv => whnf
        refine ⟨_, rS _ c 2 (u32v st.c) rfl, ?_⟩
        refine cw_keep [(2, .pointer (some ⟨hb, 0, none⟩)), (4, .pointer (some ⟨rb, 0, none⟩)), (5, .pointer (some ⟨kb, 0, none⟩)), (6, .pointer (some ⟨wb, 0, none⟩)), (13, .pointer (some ⟨sb, 0, none⟩)), (102, .int .i64 (t : Int)),
          (15, u32v st.e), (16, u32v st.a), (18, u32v (Sha.t1 st (Sha.K.getD t 0) ((Sha.sched l).getD t 0))), (20, u32v (Sha.t2 st))]
          ⟨rfl, rfl, rfl, rfl, rfl, rfl, rfl, rfl, rfl, congrArg (fun i => some (Value.int .u32 i)) (t2_eq _), trivial⟩ ?_
        refine cw_region rfl ?_
        conv => whnf
        refine ⟨⟨by decide, by decide⟩, ?_⟩
        conv => whnf
        refine ⟨_, rS _ c 1 (u32v st.b) rfl, ?_⟩
        conv => whnf
        refine ⟨⟨by decide, by decide⟩, ?_⟩
        conv => whnf
        refine ⟨_, rS _ c 2 (u32v st.c) rfl, ?_⟩
        conv => whnf
        refine ⟨⟨by decide, by decide⟩, ?_⟩
        conv => whnf
        refine ⟨_, rS _ c 3 (u32v st.d) rfl, ?_⟩
        conv => whnf
        refine ⟨⟨by decide, by decide⟩, ?_⟩
        conv => whnf
        refine ⟨_, rS _ c 5 (u32v st.f) rfl, ?_⟩
        conv => whnf
        refine ⟨⟨by decide, by decide⟩, ?_⟩
        conv => whnf
        refine ⟨_, rS _ c 6 (u32v st.g) rfl, ?_⟩
        conv => whnf
        generalize hk : Sha.K.getD t 0 = kt at *
        generalize hw : (Sha.sched l).getD t 0 = wt at *
        refine ⟨_, rfl, #[.int .u32 (IntKind.u32.wrap (((Sha.t1 st kt wt).toNat : Int) + ((Sha.t2 st).toNat : Int))), u32v st.a, u32v st.b, u32v st.c, .int .u32 (IntKind.u32.wrap ((st.d.toNat : Int) + ((Sha.t1 st kt wt).toNat : Int))), u32v st.e, u32v st.f, u32v st.g], fun w => by kernel_rfl, ?_⟩
        rw [wrap_add32, wrap_add32]
        conv => whnf
        refine ⟨_, _, c.S, ⟨Nat.le_refl 8, by rfl, by simp [u32v, Value.oneCell']⟩, ?_⟩
        intro h3 w3
        have w3 := w3.cast (l' := (Sha.rounds (Sha.sched l) s (t + 1)).list.map u32v) (by
          simp only [Sha.rounds, hst, hk, hw]
          rfl)
        refine cw_region rfl ?_
        exact ⟨t + 1, ⟨rfl, rfl, rfl, rfl, rfl, slot_i64 _ _ (by omega) (by omega), trivial⟩, ⟨by omega, c.wrote w3 rfl⟩, by omega⟩
      · refine cw_seq (cw_no rfl (by omega) (cw_exit ?_))
        have t64 : t = 64 := by omega
        subst t64
        generalize hr : Sha.rounds (Sha.sched l) s 64 = r at *
        -- the sum
        refine cw_seq (cw_seq (cw_region rfl ?_))
        refine cw_block ?_
        refine cw_loop (S := Nat) (fun t => [(2, .pointer (some ⟨hb, 0, none⟩)), (4, .pointer (some ⟨rb, 0, none⟩)), (13, .pointer (some ⟨sb, 0, none⟩)), (184, .int .i64 (t : Int))])
          (fun t h => t ≤ 8 ∧ CS h0 hb bb rb kb wb sb s l ((Sha.sched l).map u32v) (acells r s t) h) (fun t => 8 - t) 0 ⟨rfl, rfl, rfl, rfl, trivial⟩ ⟨by omega, c⟩ ?_
        clear c h ht hlt
        rintro t h ⟨ht, c⟩
        refine cw_seq (cw_region rfl ?_)
        by_cases hlt : t < 8
        · refine cw_seq (cw_yes rfl (by omega) (cw_skip ?_))
          refine cw_seq (cw_block (cw_seq (cw_region rfl ?_)))
          refine cw_drawn (by kernel_rfl) 8 (fun _ => false) (List.range 8) (by kernel_rfl) rfl ?_
          conv => whnf
          refine ⟨⟨by omega, by omega⟩, ?_⟩
          conv => whnf
          refine ⟨u32v (r.list.getD t 0), c.S.rd (by rw [show 0 + ((t : Int)).toNat = t by omega]; exact acells_get r s t hlt), ?_⟩
          conv => whnf
          refine ⟨⟨by omega, by omega⟩, ?_⟩
          conv => whnf
          refine ⟨u32v (s.list.getD t 0), c.c.H.rd (by rw [show 0 + ((t : Int)).toNat = t by omega]; exact map_get u32v _ t 0 (by simpa [Sha.S8.list] using hlt)), ?_⟩
          conv => whnf
          refine ⟨⟨by omega, by omega⟩, ?_⟩
          conv => whnf
          intro h1 e1
          conv => whnf
          refine ⟨_, _, (c.more e1).S, by simp [acells, Sha.S8.list]; omega, ?_⟩
          intro h2 w
          have w := w.cast (l' := acells r s (t + 1)) (by
            rw [← acells_set r s t hlt]
            exact congr (congrArg (List.set (acells r s t)) (show 0 + ((t : Int)).toNat = t by omega)) (congrArg (Value.int .u32) (wrap_add32 _ _)))
          refine cw_region rfl ?_
          exact ⟨t + 1, ⟨rfl, rfl, rfl, slot_i64 _ _ (by omega) (by omega), trivial⟩, ⟨by omega, (c.more e1).wrote w rfl⟩, by omega⟩
        · refine cw_seq (cw_no rfl (by omega) (cw_exit ?_))
          have t8 : t = 8 := by omega
          subst t8
          have ea : acells r s 8 = ((Sha.compress s l).list.map u32v) := by
            subst hr
            rfl
          rw [ea] at c
          refine cw_seq (cw_region rfl ?_)
          conv => whnf
          refine ⟨_, by rfl, c.S.all, ?_⟩
          conv => whnf
          refine ⟨_, _, c.c.R, ⟨Nat.le_refl 8, by rfl, by simp [u32v, Value.oneCell', Sha.S8.list]⟩, ?_⟩
          intro h1 w1
          refine cw_ret ?_
          refine ⟨_, by rfl, w1.new.all, rfl, ?_⟩
          have lb := c.c.lb
          exact ⟨by rw [w1.size]; exact c.c.ext.size, fun b hb' => by rw [w1.block b (by omega)]; exact c.c.ext.block b hb'⟩
end Go.Proofs.YtdielfpgekenkaaGreatDoor
namespace Go.Proofs.YtdielfpgekenkaaGreatDoor
open Go Vm
set_option maxRecDepth 100000
theorem info8 : (Tryz.prog.info? 5).map (fun i => (i.zero, i.size, i.bytes)) = some (some (.int .u8 0), 1, 1) := by kernel_rfl
def OB (h : Heap) (v : Value) (l : List UInt8) : Prop := OwnS h 5 1 v l.length (l.map u8v)
def RB (h : Heap) (v : Value) (l : List UInt8) : Prop := Src h 1 v l.length (l.map u8v)
theorem OB.r {h : Heap} {v : Value} {l : List UInt8} (o : OB h v l) : RB h v l := OwnS.src o
theorem one8 (l : List UInt8) : ∀ u ∈ l.map u8v, u.oneCell' = true := by
  intro u hu
  obtain ⟨b, _, rfl⟩ := List.mem_map.1 hu
  rfl
theorem append_bytes {h : Heap} {v x : Value} {l m : List UInt8} {ty : TypeId} (hd : OB h v l) (hs : RB h x m) (hl : l.length + m.length ≤ 140737488355328) :
    RunsV Tryz.prog (Builtin.append_ #[170, 170] ty #[v, x]) h fun v' h' => OB h' v' (l ++ m) ∧ Chg (ob v) h h' ∧ ∀ b, ob v' b → ob v b ∨ h.size ≤ b := by
  obtain ⟨i0, hi, hz0, hz1, hz2⟩ := info_parts info8
  have := append_own (P := Tryz.prog) (t := 170) (ty := ty) Tryz.underlying170 hi hz0 (by rw [hz1]; rfl) hz1 hd hs (one8 m) (by unfold maxLen; omega) (by rw [hz2]; omega)
  refine this.mono fun v' h' ⟨h1, h2, h3⟩ => ⟨?_, h2, h3⟩
  unfold OB
  simpa using h1
theorem RB.cases {h : Heap} {v : Value} {l : List UInt8} (r : RB h v l) : (v = .slice none 0 0 ∧ l = []) ∨ ∃ A cap, v = .slice (some A) l.length cap ∧ l.length ≤ cap ∧ cap ≤ maxLen ∧ rdA h A (l.map u8v) := by
  rcases r.2 with ⟨rfl, h0⟩ | h0
  · exact .inl ⟨rfl, List.eq_nil_of_length_eq_zero h0⟩
  · exact .inr h0
theorem OB.nil (h : Heap) : OB h (.slice none 0 0) [] := OwnS.nil h _ _
/-- a new row is our own -/
theorem OB.of_new {h h' : Heap} {c : Array Value} {l : List UInt8} {tl : List Value} {cap : Nat} (n : Newed h h' (.cells c 5)) (hc : c.toList = l.map u8v ++ tl) (hcap : l.length + tl.length = cap) (hm : cap ≤ maxLen) :
    OB h' (.slice (some ⟨h.size, 0, none⟩) l.length cap) l := by
  refine ⟨by simp, .inr ⟨h.size, cap, tl, rfl, ?_, by omega, hm, by simp; omega⟩⟩
  rw [← hc]
  exact n.blk
theorem clone_fn {h : Heap} {v : Value} {l : List UInt8} (r : RB h v l) (hl : l.length ≤ 140737488355328) :
    Fx Tryz.prog 529 #[v] h fun v' h' => OB h' v' l ∧ ExtH h h' ∧ ∀ b, ob v' b → h.size ≤ b := by
  refine fn_of 8 Tryz.func529 rfl (by kernel_rfl) rfl (by simp) ?_
  refine cw_seq (cw_region rfl ?_)
  refine cw_seq (cw_seq (cw_region rfl ?_))
  rcases r.cases with ⟨rfl, rfl⟩ | ⟨A, cap, rfl, hc, hm, hr⟩
  · conv => whnf
    refine ⟨.bool true, fun w => by kernel_rfl, ?_⟩
    refine cw_true rfl ?_
    refine cw_seq (cw_region rfl ?_)
    refine cw_ret ?_
    exact ⟨OB.nil h, ExtH.refl h, fun b hb => (ob_nil hb).elim⟩
  · conv => whnf
    refine ⟨.bool false, fun w => by kernel_rfl, ?_⟩
    refine cw_false rfl (cw_skip ?_)
    refine cw_seq (cw_region rfl ?_)
    conv => whnf
    refine ⟨_, rfl, #[], 5, fun w => by kernel_rfl, ?_⟩
    intro h1 n1
    have o1 : OB h1 (.slice (some ⟨h.size, 0, none⟩) 0 0) [] := OB.of_new (l := []) (tl := []) n1 rfl rfl (by simp [maxLen])
    conv => whnf
    refine ⟨_, rfl, _, append_bytes (ty := 170) o1 (Src.more r n1.ext) (by simpa using hl), ?_⟩
    rintro v' h2 ⟨o2, c2, f2⟩
    refine cw_ret ?_
    have e2 : ExtH h h2 := ⟨by have := n1.size; have := c2.size; omega, fun b hb => by
      rw [c2.block b (by rw [n1.size]; omega) (by rw [ob_slice]; omega), n1.block b hb]⟩
    refine ⟨o2, e2, fun b hb => ?_⟩
    rcases f2 b hb with h3 | h3
    · rw [ob_slice] at h3; omega
    · have := n1.size; omega
theorem made8 {h : Heap} {b n : Nat} {t : TypeId} (hb : Blk h b (madeCells #[u8v 0] n).toList t) : Blk h b (List.replicate n (u8v 0)) t := by rwa [toList_madeCells_one] at hb
def ecells (n i : Nat) : List Value := ((Sha.eight n).map u8v).take i ++ List.replicate (8 - i) (u8v 0)
theorem ecells_set (n i : Nat) (hi : i < 8) : (ecells n i).set i (u8v (UInt8.ofNat (n / 2 ^ (56 - 8 * i)))) = ecells n (i + 1) := by
  have : i = 0 ∨ i = 1 ∨ i = 2 ∨ i = 3 ∨ i = 4 ∨ i = 5 ∨ i = 6 ∨ i = 7 := by omega
  rcases this with rfl | rfl | rfl | rfl | rfl | rfl | rfl | rfl <;> simp [ecells, Sha.eight, List.replicate]
theorem ecells_length (n i : Nat) (hi : i ≤ 8) : (ecells n i).length = 8 := by simp [ecells, Sha.eight]; omega
theorem eight_fn (n : Nat) (h : Heap) :
    Fx Tryz.prog 314 #[.int .u64 (n : Int)] h fun v' h' => OB h' v' (Sha.eight n) ∧ ExtH h h' ∧ ∀ b, ob v' b → h.size ≤ b := by
  refine fn_of 22 Tryz.func314 rfl (by kernel_rfl) rfl (by simp) ?_
  refine cw_seq (cw_region rfl ?_)
  refine cw_seq (cw_region rfl ?_)
  conv => whnf
  refine ⟨⟨by decide, by decide, by decide, by decide⟩, ?_⟩
  intro h1 n1
  refine cw_seq (cw_seq (cw_region rfl ?_))
  refine cw_block ?_
  refine cw_loop (S := Nat) (fun t => [(0, .int .u64 (n : Int)), (3, .slice (some ⟨h.size, 0, none⟩) 8 8), (7, .int .i64 8), (8, .int .i64 (t : Int))])
    (fun t h' => t ≤ 8 ∧ Blk h' h.size (ecells n t) 5 ∧ ExtH h h') (fun t => 8 - t) 0 ⟨rfl, rfl, rfl, rfl, trivial⟩ ⟨by omega, made8 (n := 8) n1.blk, n1.ext⟩ ?_
  clear n1 h1
  rintro t h1 ⟨ht, hb, he⟩
  refine cw_seq (cw_region rfl ?_)
  by_cases hlt : t < 8
  · refine cw_seq (cw_yes rfl (by omega) (cw_skip ?_))
    refine cw_seq (cw_block (cw_seq (cw_region rfl (cw_region rfl ?_))))
    have e1 := i64_eq (8 * (t : Int)) (8 * t) (by omega) (by omega)
    have e2 := i64_eq (56 - IntKind.i64.wrap (8 * (t : Int))) (56 - 8 * t) (by omega) (by omega)
    conv => whnf
    refine ⟨by omega, ?_⟩
    conv => whnf
    refine ⟨⟨by omega, by omega⟩, ?_⟩
    conv => whnf
    refine ⟨_, _, hb, by rw [ecells_length _ _ ht]; omega, ?_⟩
    intro h2 w2
    have w2 := w2.cast (l' := ecells n (t + 1)) (by
      rw [← ecells_set n t hlt]
      refine congr (congrArg (List.set (ecells n t)) (show 0 + ((t : Int)).toNat = t by omega)) (congrArg (Value.int .u8) ?_)
      show IntKind.u8.wrap ((n : Int) / 2 ^ min (IntKind.i64.wrap (56 - IntKind.i64.wrap (8 * (t : Int)))).toNat 64) = _
      rw [e2, show min (((56 - 8 * t : Nat) : Int)).toNat 64 = 56 - 8 * t by omega, show (n : Int) / 2 ^ (56 - 8 * t) = ((n / 2 ^ (56 - 8 * t) : Nat) : Int) by simp, wrap8_nat])
    refine cw_region rfl ?_
    exact ⟨t + 1, ⟨rfl, rfl, rfl, slot_i64 _ _ (by omega) (by omega), trivial⟩, ⟨by omega, w2.new, ⟨by rw [w2.size]; exact he.size, fun b hb' => by rw [w2.block b (by omega)]; exact he.block b hb'⟩⟩, by omega⟩
  · refine cw_seq (cw_no rfl (by omega) (cw_exit ?_))
    have t8 : t = 8 := by omega
    subst t8
    refine cw_seq (cw_region rfl ?_)
    refine cw_ret ?_
    refine ⟨?_, he, fun b hb' => by have := ob_slice.1 hb'; omega⟩
    refine ⟨by simp, .inr ⟨h.size, 8, [], rfl, ?_, by simp [Sha.eight], by simp [maxLen], by simp [Sha.eight]⟩⟩
    simpa [ecells, Sha.eight] using hb
end Go.Proofs.YtdielfpgekenkaaGreatDoor
namespace Go.Proofs.YtdielfpgekenkaaGreatDoor
open Go Vm
set_option maxRecDepth 100000
theorem u64_in (i : Int) (n : Nat) (e : i = n) (h : n < 18446744073709551616) : IntKind.u64.wrap i = (n : Int) := by
  subst e; simp [IntKind.wrap, IntKind.bits, IntKind.signed]; omega
theorem pad_no (n : Nat) (hn : 2305843009213693951 < n) (h : Heap) :
    Fx Tryz.prog 431 #[.int .u64 (n : Int)] h fun v' h' => v' = .tuple #[.slice none 0 0, .int .i64 21] ∧ h' = h := by
  refine fn_of 20 Tryz.func431 rfl (by kernel_rfl) rfl (by simp) ?_
  refine cw_seq (cw_region rfl ?_)
  refine cw_seq (cw_seq (cw_region rfl ?_))
  refine cw_yes rfl (by omega) ?_
  refine cw_seq (cw_region rfl ?_)
  exact cw_ret ⟨rfl, rfl⟩
theorem pad_yes (n : Nat) (hn : n ≤ 2305843009213693951) (h : Heap) :
    Fx Tryz.prog 431 #[.int .u64 (n : Int)] h fun v' h' => ∃ v, v' = .tuple #[v, .int .i64 0] ∧ OB h' v (Sha.pad n) ∧ ExtH h h' ∧ ∀ b, ob v b → h.size ≤ b := by
  refine fn_of 20 Tryz.func431 rfl (by kernel_rfl) rfl (by simp) ?_
  refine cw_seq (cw_region rfl ?_)
  refine cw_seq (cw_seq (cw_region rfl ?_))
  refine cw_no rfl (by omega) (cw_skip ?_)
  refine cw_seq (cw_region rfl ?_)
  conv => whnf
  refine ⟨by decide, ?_⟩
  conv => whnf
  refine ⟨by decide, ?_⟩
  conv => whnf
  have r1 : (n : Int).tmod 64 = ((n % 64 : Nat) : Int) := by rw [Int.tmod_eq_emod_of_nonneg (by omega)]; omega
  have r2 : IntKind.u64.wrap (119 - (n : Int).tmod 64) = ((119 - n % 64 : Nat) : Int) := u64_in _ _ (by rw [r1]; omega) (by omega)
  have r3 : (IntKind.u64.wrap (119 - (n : Int).tmod 64)).tmod 64 = ((Sha.zeros n : Nat) : Int) := by rw [r2, Int.tmod_eq_emod_of_nonneg (by omega)]; unfold Sha.zeros; omega
  have hz : Sha.zeros n < 64 := by unfold Sha.zeros; omega
  have r4 : IntKind.u64.wrap (1 + (IntKind.u64.wrap (119 - (n : Int).tmod 64)).tmod 64) = ((1 + Sha.zeros n : Nat) : Int) := u64_in _ _ (by rw [r3]; omega) (by omega)
  rw [r4]
  refine ⟨⟨by omega, by omega, by decide, by decide⟩, ?_⟩
  intro h1 n1
  have b1 : Blk h1 h.size (List.replicate 72 (u8v 0)) 5 := made8 (n := 72) n1.blk
  refine cw_seq (cw_region rfl ?_)
  conv => whnf
  refine ⟨⟨by decide, by show (0 : Int) < (((((1 + Sha.zeros n : Nat) : Int)).toNat : Nat) : Int); omega⟩, ?_⟩
  conv => whnf
  refine ⟨_, _, b1, by simp, ?_⟩
  intro h2 w2
  have e8 := u64_in (8 * (n : Int)) (8 * n) (by omega) (by omega)
  have o2 : OB h2 (.slice (some ⟨h.size, 0, none⟩) (1 + Sha.zeros n) 72) (128 :: List.replicate (Sha.zeros n) 0) := by
    refine ⟨by simp, .inr ⟨h.size, 72, List.replicate (71 - Sha.zeros n) (u8v 0), by simp; omega, ?_, by simp; omega, by simp [maxLen], by simp; omega⟩⟩
    have := w2.new
    have e : (List.replicate 72 (u8v 0)).set (0 + Int.toNat 0) (Value.int .u8 128) = (128 :: List.replicate (Sha.zeros n) (0 : UInt8)).map u8v ++ List.replicate (71 - Sha.zeros n) (u8v 0) := by
      simp only [List.map_cons, List.map_replicate, List.cons_append, List.replicate_append_replicate]
      rw [show Sha.zeros n + (71 - Sha.zeros n) = 71 by omega]
      rfl
    rw [← e]
    exact this
  refine cw_seq (cw_region rfl ?_)
  conv => whnf
  rw [e8]
  refine ⟨_, rfl, _, eight_fn (8 * n) h2, ?_⟩
  rintro v3 h3 ⟨o3, x3, f3⟩
  conv => whnf
  have o2' := OwnS.more o2 x3
  refine ⟨_, rfl, _, append_bytes (ty := 170) (v := .slice (some ⟨h.size, 0, none⟩) (1 + Sha.zeros n) 72) o2' o3.r (by simp [Sha.eight]; omega), ?_⟩
  rintro v4 h4 ⟨o4, c4, f4⟩
  refine cw_ret ?_
  refine ⟨v4, rfl, ?_, ?_, fun b hb => ?_⟩
  · simpa [Sha.pad] using o4
  · have z1 := n1.size; have z2 := w2.size; have z3 := x3.size; have z4 := c4.size
    exact ⟨by omega, fun b hb => by rw [c4.block b (by omega) (by rw [ob_slice]; omega), x3.block b (by omega), w2.block b (by omega), n1.block b hb]⟩
  · have z1 := n1.size; have z2 := w2.size; have z3 := x3.size
    rcases f4 b hb with h5 | h5
    · rw [ob_slice] at h5; omega
    · omega
/-- a hash's struct -/
def hashC (s : Sha.S8) (v : Value) (n : Nat) : List Value := [.bool true, u32v s.a, u32v s.b, u32v s.c, u32v s.d, u32v s.e, u32v s.f, u32v s.g, u32v s.h, v, .int .u64 (n : Int)]
structure HashAt (h : Heap) (p : Nat) (v : Value) (s : Sha.S8) (l : List UInt8) (n : Nat) : Prop where
  blk : Blk h p (hashC s v n) 653
  own : OB h v l
theorem HashAt.ne {h : Heap} {p : Nat} {v : Value} {s : Sha.S8} {l : List UInt8} {n : Nat} (H : HashAt h p v s l n) : ¬ ob v p := OwnS.ne H.own H.blk (by decide)
theorem HashAt.keep {S : Nat → Prop} {h h' : Heap} {p : Nat} {v : Value} {s : Sha.S8} {l : List UInt8} {n : Nat} (H : HashAt h p v s l n) (c : Chg S h h') (hp : ¬ S p) (hv : ∀ b, ob v b → ¬ S b) : HashAt h' p v s l n :=
  ⟨c.blk H.blk hp, OwnS.keep H.own c hv⟩
theorem HashAt.more {h h' : Heap} {p : Nat} {v : Value} {s : Sha.S8} {l : List UInt8} {n : Nat} (H : HashAt h p v s l n) (c : ExtH h h') : HashAt h' p v s l n :=
  ⟨c.blk H.blk, OwnS.more H.own c⟩
theorem new_fn (h : Heap) : Fx Tryz.prog 304 #[] h fun v' h' => ∃ p, v' = .pointer (some ⟨p, 0, none⟩) ∧ h.size ≤ p ∧ HashAt h' p (.slice none 0 0) Sha.H0 [] 0 ∧ ExtH h h' := by
  refine fn_of 4 Tryz.func304 rfl (by kernel_rfl) rfl (by simp) ?_
  refine cw_seq (cw_region rfl ?_)
  refine cw_seq (cw_region rfl ?_)
  conv => whnf
  refine ⟨_, rfl, _, beginning_fn h, ?_⟩
  rintro _ h1 ⟨rfl, x1⟩
  conv => whnf
  refine ⟨_, rfl, (hashC Sha.H0 (.slice none 0 0) 0).toArray, fun w => by kernel_rfl, ?_⟩
  conv => whnf
  intro h2 n2
  refine cw_ret ?_
  exact ⟨h1.size, rfl, x1.size, ⟨n2.blk, OB.nil _⟩, x1.trans n2.ext⟩
theorem ready_fn {h : Heap} {p : Nat} (hb : rd h ⟨p, 0, none⟩ = some (.bool true)) : Fx Tryz.prog 428 #[.pointer (some ⟨p, 0, none⟩)] h fun v' h' => v' = .tuple #[] ∧ h' = h := by
  refine fn_of 14 Tryz.func428 rfl (by kernel_rfl) rfl (by simp) ?_
  refine cw_seq (cw_region rfl ?_)
  conv => whnf
  refine ⟨_, hb, ?_⟩
  refine cw_false rfl (cw_skip ?_)
  exact ⟨rfl, rfl⟩
end Go.Proofs.YtdielfpgekenkaaGreatDoor
namespace Go.Proofs.YtdielfpgekenkaaGreatDoor
open Go Vm
set_option maxRecDepth 100000
theorem compress_q (s : Sha.S8) (l : List UInt8) (hl : l.length = 64) (h : Heap) : FxQ Tryz.prog 528 #[.agg (s.list.map u32v).toArray, .agg (l.map u8v).toArray] h (.agg ((Sha.compress s l).list.map u32v).toArray) :=
  fun h1 _ => compress_fn s l hl h1
theorem hashC_set (s : Sha.S8) (v w : Value) (n : Nat) : (hashC s v n).set 9 w = hashC s w n := rfl
theorem hashC_splice (s t : Sha.S8) (v : Value) (n : Nat) : splice (hashC s v n) 1 (t.list.map u32v) = hashC t v n := rfl
theorem HashAt.buf {h : Heap} {p : Nat} {v : Value} {s : Sha.S8} {l : List UInt8} {n : Nat} (H : HashAt h p v s l n) : rd h ⟨p, 9, none⟩ = some v := H.blk.rd rfl
theorem HashAt.words {h : Heap} {p : Nat} {v : Value} {s : Sha.S8} {l : List UInt8} {n : Nat} (H : HashAt h p v s l n) : rdN h p 1 (s.list.map u32v) := H.blk.rdN 1 _ rfl
theorem RB.len {h : Heap} {v : Value} {l : List UInt8} (r : RB h v l) : ∃ a c, v = .slice a l.length c := by
  rcases r.cases with ⟨rfl, rfl⟩ | ⟨A, cap, rfl, _⟩
  · exact ⟨_, _, rfl⟩
  · exact ⟨_, _, rfl⟩
theorem OB.cases {h : Heap} {v : Value} {l : List UInt8} (r : OB h v l) : (v = .slice none 0 0 ∧ l = []) ∨ ∃ b cap tl, v = .slice (some ⟨b, 0, none⟩) l.length cap ∧ l.length ≤ cap ∧ cap ≤ maxLen ∧ Blk h b (l.map u8v ++ tl) 5 ∧ l.length + tl.length = cap := by
  rcases r.2 with ⟨rfl, h0⟩ | ⟨g, cap, tl, rfl, hb, hc, hm, hl⟩
  · exact .inl ⟨rfl, List.eq_nil_of_length_eq_zero h0⟩
  · exact .inr ⟨g, cap, tl, rfl, hc, hm, hb, by simpa using hl⟩
/-- a part of the bytes -/
theorem OB.part {h : Heap} {b : Nat} {l : List UInt8} {tl : List Value} (hb : Blk h b (l.map u8v ++ tl) 5) (i j : Nat) (hi : i ≤ j) (hj : j ≤ l.length) :
    rdN h b i (((l.drop i).take (j - i)).map u8v) := by
  refine hb.rdN i _ ?_
  rw [List.drop_append_of_le_length (by simp; omega), List.take_append_of_le_length (by simp; omega)]
  simp only [List.length_map, List.length_take, List.length_drop]
  rw [show min (j - i) (l.length - i) = j - i by omega, List.map_take, List.map_drop]
/-- a part of a slice, as the program cuts it -/
theorem RB.cut {h : Heap} {a : Option Addr} {n c : Nat} {l : List UInt8} (r : RB h (.slice a n c) l) (i j : Nat) (hi : i ≤ j) (hj : j ≤ l.length) {x y : Int} (ex : x = i) (ey : y = j) :
    (0 ≤ x ∧ x ≤ y ∧ y ≤ (c : Int)) ∧ ∃ A, (if c = x.toNat then a else a.map (·.add (x.toNat * 1))) = A ∧ RB h (.slice A (y.toNat - x.toNat) (c - x.toNat)) ((l.drop i).take (j - i)) := by
  subst ex ey
  have hlen : ((l.drop i).take (j - i)).length = j - i := by simp; omega
  rcases r.cases with ⟨h1, rfl⟩ | ⟨X, cap, h1, hc, hm, hr⟩
  · injection h1 with h1 h2 h3
    subst h1 h2 h3
    have hj0 : j = 0 := by simpa using hj
    have hi0 : i = 0 := by omega
    subst hj0 hi0
    exact ⟨⟨by omega, by omega, by omega⟩, none, rfl, rfl, .inl ⟨rfl, rfl⟩⟩
  · injection h1 with h1 h2 h3
    subst h1 h2 h3
    refine ⟨⟨by omega, by omega, by omega⟩, ?_⟩
    by_cases he : c = i
    · refine ⟨some X, by rw [if_pos (by omega)], by simp, .inr ⟨X, c - i, ?_, ?_, ?_, ?_⟩⟩
      · rw [hlen]; congr 1 <;> omega
      · omega
      · omega
      · have : (l.drop i).take (j - i) = [] := List.eq_nil_of_length_eq_zero (by omega)
        rw [this]
        intro j v hj; simp at hj
    · refine ⟨some (X.add i), ?_, by simp, .inr ⟨X.add i, c - i, ?_, ?_, ?_, ?_⟩⟩
      · rw [if_neg (by omega)]
        show some (Addr.add X ((i : Int).toNat * 1)) = _
        rw [show (i : Int).toNat * 1 = i by omega]
      · rw [hlen]; congr 1 <;> omega
      · omega
      · omega
      · intro t v ht
        rw [add_add]
        refine hr (i + t) v ?_
        rw [List.map_take, List.map_drop, List.getElem?_take] at ht
        split at ht
        · rwa [List.getElem?_drop] at ht
        · cases ht
theorem take_fn {h : Heap} {p : Nat} {v x : Value} {s : Sha.S8} {l m : List UInt8} {n : Nat} (H : HashAt h p v s l n) (hx : RB h x m) (hl : l.length + m.length ≤ 140737488355328) :
    Fx Tryz.prog 429 #[.pointer (some ⟨p, 0, none⟩), x] h fun _ h' => ∃ v', HashAt h' p v' (Sha.feed s (l ++ m)) (Sha.rest (l ++ m)) n ∧ Chg (fun b => b = p ∨ ob v b) h h' ∧ ∀ b, ob v' b → h.size ≤ b := by
  refine fn_of 52 Tryz.func429 rfl (by kernel_rfl) rfl (by simp) ?_
  refine cw_seq (cw_region rfl ?_)
  conv => whnf
  refine ⟨_, H.buf, ?_⟩
  conv => whnf
  refine ⟨_, rfl, _, append_bytes (ty := 170) H.own hx hl, ?_⟩
  rintro v1 h1 ⟨o1, c1, f1⟩
  obtain ⟨a1, k1, e1⟩ := o1.r.len
  have hpv := H.ne
  subst e1
  conv => whnf
  refine ⟨_, _, c1.blk H.blk hpv, (show (9 : Nat) < 11 from by decide), ?_⟩
  intro h2 w2
  generalize hv1 : Value.slice a1 (l ++ m).length k1 = v1 at *
  replace w2 := w2.cast (l' := hashC s v1 n) rfl
  have hp := H.blk.lt
  have n1 : ¬ ob v1 p := OwnS.ne o1 (c1.blk H.blk hpv) (by decide)
  have H2 : HashAt h2 p v1 (Sha.feedN s (l ++ m) 0) (l ++ m) n := ⟨w2.new, OwnS.keep o1 w2.chg (fun b hb e => n1 (e ▸ hb))⟩
  have c2 : Chg (fun b => b = p ∨ ob v b) h h2 := (c1.trans w2.chg).mono (fun b _ hb => hb.symm)
  have hlm : (l ++ m).length ≤ 140737488355328 := by simpa using hl
  generalize l ++ m = lm at *
  refine cw_seq (cw_region rfl ?_)
  conv => whnf
  refine cw_seq (cw_block ?_)
  refine cw_loop (S := Nat) (fun k => [(0, .pointer (some ⟨p, 0, none⟩)), (4, .int .i64 ((64 * k : Nat) : Int))])
    (fun k h3 => 64 * k ≤ lm.length ∧ HashAt h3 p v1 (Sha.feedN s lm k) lm n ∧ Chg (fun b => b = p ∨ ob v b) h h3) (fun k => lm.length - 64 * k) 0 ⟨rfl, rfl, trivial⟩ ⟨by omega, H2, c2⟩ ?_
  clear H2 c2 n1 w2 h2 c1 f1 o1 h1
  rintro k h3 ⟨hk, H3, c3⟩
  refine cw_seq (cw_seq (cw_region rfl ?_))
  conv => whnf
  refine ⟨_, H3.buf, ?_⟩
  subst hv1
  conv => whnf
  have i1 := i64_eq ((lm.length : Int) - ((64 * k : Nat) : Int)) (lm.length - 64 * k) (by omega) (by omega)
  by_cases hlt : 64 * k + 64 ≤ lm.length
  · refine cw_yes rfl (by omega) (cw_skip ?_)
    rcases H3.own.cases with ⟨_, hn⟩ | ⟨g, cap, tl, hvs, hc, hm, hg, hcl⟩
    · subst hn; simp at hlt
    injection hvs with ha _ hcap
    subst ha hcap
    refine cw_block (cw_seq ?_)
    have i2 := i64_eq (((64 * k : Nat) : Int) + 64) (64 * k + 64) (by omega) (by omega)
    refine cw_drawn (by kernel_rfl) 18 (fun _ => false) (List.range 18) (by kernel_rfl) rfl ?_
    conv => whnf
    refine ⟨_, by rfl, H3.words, ?_⟩
    conv => whnf
    refine ⟨_, H3.buf, ?_⟩
    conv => whnf
    refine ⟨⟨by omega, by omega, by omega⟩, some ⟨g, 64 * k, none⟩, ?_, ?_⟩
    · rw [if_neg (by omega)]
      show some (Addr.add ⟨g, 0, none⟩ (((64 * k : Nat) : Int).toNat * 1)) = _
      rw [add_none, show 0 + ((64 * k : Nat) : Int).toNat * 1 = 64 * k by omega]
    conv => whnf
    refine ⟨by show (64 : Nat) ≤ _; omega, ?_⟩
    conv => whnf
    refine ⟨_, Eq.trans (b := 64) (by simp; omega) rfl, OB.part hg (64 * k) (64 * k + 64) (by omega) (by omega), ?_⟩
    conv => whnf
    refine ⟨_, rfl, _, compress_q (Sha.feedN s lm k) ((lm.drop (64 * k)).take (64 * k + 64 - 64 * k)) (by simp; omega) h3, ?_⟩
    conv => whnf
    intro h4 x4
    conv => whnf
    refine ⟨_, _, x4.blk H3.blk, ⟨(show (9 : Nat) ≤ 11 by decide), rfl, by simp [u32v, Value.oneCell', Sha.S8.list]⟩, ?_⟩
    intro h5 w5
    replace w5 := w5.cast (l' := hashC (Sha.feedN s lm (k + 1)) (.slice (some ⟨g, 0, none⟩) lm.length k1) n) (by
      rw [show 64 * k + 64 - 64 * k = 64 by omega]; rfl)
    have hne := H3.ne
    have hgp : g ≠ p := fun e => hne (ob_slice.2 e.symm)
    refine cw_region rfl ?_
    refine ⟨k + 1, ⟨rfl, slot_i64 _ _ (by omega) (by omega), trivial⟩, ⟨by omega, ⟨w5.new, OwnS.keep (OwnS.more H3.own x4) w5.chg (fun b hb e => hne (e ▸ hb))⟩, ?_⟩, by omega⟩
    exact ((c3.trans (x4.chg (S := fun _ => False))).trans w5.chg (T := fun b => b = p)).mono (fun b _ hb => by
      rcases hb with (hb | hb) | hb
      · exact hb
      · exact hb.elim
      · exact .inl hb)
  · refine cw_no rfl (by omega) (cw_exit ?_)
    have hr : lm.length - 64 * k < 64 := by omega
    have hk' : k = lm.length / 64 := by omega
    refine cw_region rfl ?_
    conv => whnf
    refine ⟨_, H3.buf, ?_⟩
    conv => whnf
    have hcut := H3.own.r.cut (64 * k) lm.length hk (Nat.le_refl _) (x := ((64 * k : Nat) : Int)) (y := (lm.length : Int)) rfl rfl
    obtain ⟨A, hA, hR⟩ := hcut.2
    refine ⟨hcut.1, A, hA, ?_⟩
    conv => whnf
    refine ⟨_, rfl, _, append_bytes (ty := 170) (v := .slice none 0 0) (OB.nil h3) hR (by simp; omega), ?_⟩
    have er : [] ++ (lm.drop (64 * k)).take (lm.length - 64 * k) = Sha.rest lm := by
      rw [List.nil_append, List.take_of_length_le (by simp)]
      unfold Sha.rest
      rw [hk', Nat.mul_comm]
    have ef : Sha.feedN s lm k = Sha.feed s lm := by rw [Sha.feed_feedN, hk']
    rw [ef] at H3
    rw [er]
    rintro v4 h4 ⟨o4, c4, f4⟩
    obtain ⟨a4, k4, e4⟩ := o4.r.len
    subst e4
    have x4 : ExtH h3 h4 := c4.ext (fun b hb => (ob_nil hb).elim)
    conv => whnf
    refine ⟨_, _, x4.blk H3.blk, (show (9 : Nat) < 11 from by decide), ?_⟩
    intro h5 w5
    generalize hv4 : Value.slice a4 (Sha.rest lm).length k4 = v4 at *
    replace w5 := w5.cast (l' := hashC (Sha.feed s lm) v4 n) rfl
    have hs3 := c3.size
    have fr : ∀ b, ob v4 b → h.size ≤ b := fun b hb => by
      rcases f4 b hb with h6 | h6
      · exact (ob_nil h6).elim
      · omega
    refine ⟨v4, ⟨w5.new, OwnS.keep o4 w5.chg (fun b hb e => ?_)⟩, ?_, fr⟩
    · have := fr b hb; omega
    · exact ((c3.trans (x4.chg (S := fun _ => False))).trans w5.chg (T := fun b => b = p)).mono (fun b _ hb => by
        rcases hb with (hb | hb) | hb
        · exact hb
        · exact hb.elim
        · exact .inl hb)
end Go.Proofs.YtdielfpgekenkaaGreatDoor
