/-
  The contracts of RotateLeft32, beginning, constants and Compress of package sha.
-/
import Derived.Test.YtgecapllodgdeaaGreatDoorVmCode
import Derived.Test.YtgecapllodgdeaaGreatDoorShaBits
import Derived.Test.YtgecapllodgdeaaGreatDoorProg
namespace Go.Proofs.YtgecapllodgdeaaGreatDoor
open Go Vm
set_option maxRecDepth 100000
theorem rot_fn (x : UInt32) (k : Int) (s : Nat) (hs : bits .and .u64 (IntKind.u64.wrap k) 31 = s) (h1 : 1 ≤ s) (h2 : s ≤ 31) :
    FxP Tryz.prog 164 #[u32v x, .int .i64 k] (u32v (Sha.rotr x (32 - s))) := by
  intro h
  refine fn_of 17 Tryz.func164 rfl (by kernel_rfl) rfl (by simp) ?_
  refine cw_seq (cw_region rfl ?_)
  conv => whnf
  refine cw_seq (cw_region rfl ?_)
  conv => whnf
  refine cw_seq (cw_region rfl ?_)
  conv => whnf
  rw [hs]
  refine ⟨by omega, ?_⟩
  conv => whnf
  have e : IntKind.u64.wrap (32 - (s : Int)) = ((32 - s : Nat) : Int) := by simp [IntKind.wrap, IntKind.bits, IntKind.signed]; omega
  refine ⟨?_, ?_⟩
  · show 0 ≤ IntKind.u64.wrap (32 - (s : Int))
    omega
  conv => whnf
  refine cw_ret ?_
  refine ⟨?_, rfl⟩
  show Value.int .u32 (bits .or .u32 (IntKind.u32.wrap ((x.toNat : Int) * 2 ^ min ((s : Int)).toNat 32)) ((x.toNat : Int) / 2 ^ min (IntKind.u64.wrap (32 - (s : Int))).toNat 32)) = _
  rw [e, show min ((s : Int)).toNat 32 = s by omega, show min (((32 - s : Nat) : Int)).toNat 32 = 32 - s by omega, rot_eq x s h1 h2]
  rfl
theorem rot (x : UInt32) (n : Nat) (k : Int) (hs : bits .and .u64 (IntKind.u64.wrap k) 31 = ((32 - n : Nat) : Int)) (h1 : 1 ≤ n) (h2 : n ≤ 31) :
    FxP Tryz.prog 164 #[u32v x, .int .i64 k] (u32v (Sha.rotr x n)) := by
  have := rot_fn x k (32 - n) hs (by omega) (by omega)
  rwa [show 32 - (32 - n) = n by omega] at this
theorem beginning_fn (h : Heap) : Fx Tryz.prog 96 #[] h fun v h' => v = .agg (Sha.H0.list.map u32v).toArray ∧ ExtH h h' := by
  refine fn_of 2 Tryz.func96 rfl (by kernel_rfl) rfl (by simp) ?_
  refine cw_seq (cw_region rfl ?_)
  conv => whnf
  intro h1 n1
  refine cw_seq (cw_region rfl ?_)
  conv => whnf
  refine ⟨_, rfl, (Sha.H0.list.map u32v).toArray, fun w => by kernel_rfl, ?_⟩
  conv => whnf
  refine ⟨_, _, n1.blk, ⟨by decide, by decide, by decide⟩, ?_⟩
  intro h2 w2
  refine cw_ret ?_
  refine ⟨_, ?_, w2.new.all, ?_⟩
  · decide
  refine ⟨?_, ?_⟩
  · rfl
  exact ⟨by rw [w2.size, n1.size]; omega, fun b hb => by rw [w2.block b (by omega), n1.block b hb]⟩
theorem constants_fn (h : Heap) : Fx Tryz.prog 163 #[] h fun v h' => v = .agg (Sha.K.map u32v).toArray ∧ ExtH h h' := by
  refine fn_of 2 Tryz.func163 rfl (by kernel_rfl) rfl (by simp) ?_
  refine cw_seq (cw_region rfl ?_)
  conv => whnf
  intro h1 n1
  refine cw_seq (cw_region rfl ?_)
  conv => whnf
  refine ⟨_, rfl, (Sha.K.map u32v).toArray, fun w => by kernel_rfl, ?_⟩
  conv => whnf
  refine ⟨_, _, n1.blk, ⟨by decide, by decide, by decide⟩, ?_⟩
  intro h2 w2
  refine cw_ret ?_
  refine ⟨_, ?_, w2.new.all, ?_⟩
  · decide
  refine ⟨?_, ?_⟩
  · rfl
  exact ⟨by rw [w2.size, n1.size]; omega, fun b hb => by rw [w2.block b (by omega), n1.block b hb]⟩
def z32 : Value := u32v 0
theorem zeros64 : (List.replicate 64 z32).length = 64 := by simp
/-- the blocks of a call of Compress -/
structure CC (h0 : Heap) (hb bb rb kb wb : Nat) (s : Sha.S8) (l : List UInt8) (wl : List Value) (h : Heap) : Prop where
  lb : h0.size ≤ hb ∧ h0.size ≤ bb ∧ h0.size ≤ rb ∧ h0.size ≤ kb ∧ h0.size ≤ wb ∧ hb < wb ∧ bb < wb ∧ rb < wb ∧ kb < wb ∧ rb ≠ hb ∧ rb ≠ bb ∧ rb ≠ kb
  ext : ExtH h0 h
  H : Blk h hb (s.list.map u32v) 174
  B : Blk h bb (l.map u8v) 231
  R : Blk h rb (List.replicate 8 z32) 174
  K : Blk h kb (Sha.K.map u32v) 250
  W : Blk h wb wl 250
theorem CC.more {h0 : Heap} {hb bb rb kb wb : Nat} {s : Sha.S8} {l : List UInt8} {wl : List Value} {h h' : Heap} (c : CC h0 hb bb rb kb wb s l wl h) (e : ExtH h h') : CC h0 hb bb rb kb wb s l wl h' :=
  ⟨c.lb, c.ext.trans e, e.blk c.H, e.blk c.B, e.blk c.R, e.blk c.K, e.blk c.W⟩
theorem CC.wrote {h0 : Heap} {hb bb rb kb wb : Nat} {s : Sha.S8} {l : List UInt8} {wl wl' : List Value} {h h' : Heap} {t : TypeId} (c : CC h0 hb bb rb kb wb s l wl h) (e : Wrote h h' wb wl' t) (ht : t = 250) : CC h0 hb bb rb kb wb s l wl' h' := by
  subst ht
  have := c.lb
  exact ⟨c.lb, ⟨by rw [e.size]; exact c.ext.size, fun b hb' => by rw [e.block b (by omega)]; exact c.ext.block b hb'⟩, e.blk c.H (by omega), e.blk c.B (by omega), e.blk c.R (by omega), e.blk c.K (by omega), e.new⟩
theorem set_snoc {α : Type} (xs : List α) (m : Nat) (z v : α) (n : Nat) (hn : xs.length = n) (hm : 0 < m) : (xs ++ List.replicate m z).set n v = (xs ++ [v]) ++ List.replicate (m - 1) z := by
  subst hn
  obtain ⟨m, rfl⟩ : ∃ k, m = k + 1 := ⟨m - 1, by omega⟩
  simp [List.replicate_succ]
theorem map_get {α : Type} (f : α → Value) (l : List α) (i : Nat) (d : α) (h : i < l.length) : (l.map f)[i]? = some (f (l.getD i d)) := by
  simp [h]
def wcells (l : List UInt8) (t : Nat) : List Value := (Sha.words l t).map u32v ++ List.replicate (64 - t) z32
theorem wcells_set (l : List UInt8) (t : Nat) (ht : t < 16) : (wcells l t).set t (u32v (Sha.word l t)) = wcells l (t + 1) := by
  unfold wcells
  rw [set_snoc _ _ _ _ _ (by simp [Sha.words_length]) (by omega)]
  simp only [Sha.words, List.map_append, List.map_cons, List.map_nil]
  rw [show 64 - t - 1 = 64 - (t + 1) by omega]
def vcells (l : List UInt8) (t : Nat) : List Value := (Sha.ext (Sha.words l 16) t).map u32v ++ List.replicate (48 - t) z32
theorem vcells_zero (l : List UInt8) : wcells l 16 = vcells l 0 := by simp [wcells, vcells, Sha.ext]
theorem vcells_set (l : List UInt8) (t : Nat) (ht : t < 48) : (vcells l t).set (16 + t) (u32v (Sha.next (Sha.ext (Sha.words l 16) t) (16 + t))) = vcells l (t + 1) := by
  unfold vcells
  rw [set_snoc _ _ _ _ _ (by simp [Sha.ext_length, Sha.words_length]) (by omega)]
  simp only [Sha.ext, List.map_append, List.map_cons, List.map_nil]
  rw [show 48 - t - 1 = 48 - (t + 1) by omega]
/-- the same, with the state's block -/
structure CS (h0 : Heap) (hb bb rb kb wb sb : Nat) (s : Sha.S8) (l : List UInt8) (wl sl : List Value) (h : Heap) : Prop where
  c : CC h0 hb bb rb kb wb s l wl h
  lt : wb < sb
  S : Blk h sb sl 174
theorem CS.more {h0 : Heap} {hb bb rb kb wb sb : Nat} {s : Sha.S8} {l : List UInt8} {wl sl : List Value} {h h' : Heap} (c : CS h0 hb bb rb kb wb sb s l wl sl h) (e : ExtH h h') : CS h0 hb bb rb kb wb sb s l wl sl h' :=
  ⟨c.c.more e, c.lt, e.blk c.S⟩
theorem CS.wrote {h0 : Heap} {hb bb rb kb wb sb : Nat} {s : Sha.S8} {l : List UInt8} {wl sl sl' : List Value} {h h' : Heap} {t : TypeId} (c : CS h0 hb bb rb kb wb sb s l wl sl h) (e : Wrote h h' sb sl' t) (ht : t = 174) : CS h0 hb bb rb kb wb sb s l wl sl' h' := by
  subst ht
  have := c.c.lb
  have := c.lt
  exact ⟨⟨c.c.lb, ⟨by rw [e.size]; exact c.c.ext.size, fun b hb' => by rw [e.block b (by omega)]; exact c.c.ext.block b hb'⟩, e.blk c.c.H (by omega), e.blk c.c.B (by omega), e.blk c.c.R (by omega), e.blk c.c.K (by omega), e.blk c.c.W (by omega)⟩, c.lt, e.new⟩
theorem wcells_sched (l : List UInt8) : vcells l 48 = (Sha.sched l).map u32v := by simp [vcells, Sha.sched]
/-- the first i words of a sum -/
def acells (r s : Sha.S8) (i : Nat) : List Value := ((Sha.add8 r s).list.map u32v).take i ++ (r.list.map u32v).drop i
theorem acells_set (r s : Sha.S8) (i : Nat) (hi : i < 8) : (acells r s i).set i (u32v (r.list.getD i 0 + s.list.getD i 0)) = acells r s (i + 1) := by
  have : i = 0 ∨ i = 1 ∨ i = 2 ∨ i = 3 ∨ i = 4 ∨ i = 5 ∨ i = 6 ∨ i = 7 := by omega
  rcases this with rfl | rfl | rfl | rfl | rfl | rfl | rfl | rfl <;> rfl
theorem acells_get (r s : Sha.S8) (i : Nat) (hi : i < 8) : (acells r s i)[i]? = some (u32v (r.list.getD i 0)) := by
  have : i = 0 ∨ i = 1 ∨ i = 2 ∨ i = 3 ∨ i = 4 ∨ i = 5 ∨ i = 6 ∨ i = 7 := by omega
  rcases this with rfl | rfl | rfl | rfl | rfl | rfl | rfl | rfl <;> rfl
set_option maxHeartbeats 1000000 in
theorem compress_fn (s : Sha.S8) (l : List UInt8) (hl : l.length = 64) (h0 : Heap) :
    Fx Tryz.prog 125 #[.agg (s.list.map u32v).toArray, .agg (l.map u8v).toArray] h0 fun v h' => v = .agg ((Sha.compress s l).list.map u32v).toArray ∧ ExtH h0 h' := by
  refine fn_of 197 Tryz.func125 rfl (by kernel_rfl) rfl (by simp) ?_
  refine cw_seq (cw_region rfl ?_)
  conv => whnf
  intro h1 n1
  conv => whnf
  intro h2 n2
  conv => whnf
  intro h3 n3
  refine cw_seq (cw_region rfl ?_)
  conv => whnf
  refine ⟨_, rfl, _, constants_fn h3, ?_⟩
  rintro v h4 ⟨rfl, e4⟩
  conv => whnf
  intro h5 n5
  conv => whnf
  refine ⟨_, _, n5.blk, ⟨by decide, by decide, by decide⟩, ?_⟩
  intro h6 w6
  refine cw_seq (cw_region rfl ?_)
  conv => whnf
  intro h7 n7
  have z1 := n1.size; have z2 := n2.size; have z3 := n3.size; have z4 := e4.size; have z5 := n5.size; have z6 := w6.size; have z7 := n7.size
  have c : CC h0 h0.size h1.size h2.size h4.size h6.size s l (wcells l 0) h7 := by
    refine ⟨⟨by omega, by omega, by omega, by omega, by omega, by omega, by omega, by omega, by omega, by omega, by omega, by omega⟩, ?_, ?_, ?_, ?_, ?_, ?_⟩
    · exact ((n1.ext.trans n2.ext).trans (n3.ext.trans e4)).trans ⟨by omega, fun b hb => by rw [n7.block b (by omega), w6.block b (by omega), n5.block b hb]⟩
    · exact n7.ext.blk (w6.blk (n5.ext.blk (e4.blk (n3.ext.blk (n2.ext.blk n1.blk)))) (by omega))
    · exact n7.ext.blk (w6.blk (n5.ext.blk (e4.blk (n3.ext.blk n2.blk))) (by omega))
    · exact n7.ext.blk (w6.blk (n5.ext.blk (e4.blk n3.blk)) (by omega))
    · exact n7.ext.blk w6.new
    · exact n7.blk
  generalize h1.size = bb at *; generalize h2.size = rb at *; generalize h4.size = kb at *; generalize h6.size = wb at *
  generalize hhb : h0.size = hb at *
  clear n1 n2 n3 e4 n5 w6 n7 z1 z2 z3 z4 z5 z6 z7
  -- the sixteen words of the block
  refine cw_seq (cw_seq (cw_region rfl ?_))
  refine cw_block ?_
  refine cw_loop (S := Nat) (fun t => [(2, .pointer (some ⟨hb, 0, none⟩)), (3, .pointer (some ⟨bb, 0, none⟩)), (4, .pointer (some ⟨rb, 0, none⟩)), (5, .pointer (some ⟨kb, 0, none⟩)), (6, .pointer (some ⟨wb, 0, none⟩)), (23, .int .i64 (t : Int))])
    (fun t h => t ≤ 16 ∧ CC h0 hb bb rb kb wb s l (wcells l t) h) (fun t => 16 - t) 0 ⟨rfl, rfl, rfl, rfl, rfl, rfl, trivial⟩ ⟨by omega, c⟩ ?_
  clear c h1 h2 h3 h4 h5 h6 h7
  rintro t h ⟨ht, c⟩
  refine cw_seq (cw_region rfl ?_)
  by_cases hlt : t < 16
  · refine cw_seq (cw_yes rfl (by omega) (cw_skip ?_))
    refine cw_seq (cw_block (cw_seq (cw_region rfl ?_)))
    refine cw_drawn (by kernel_rfl) 31 (fun _ => false) (List.range 31) (by kernel_rfl) rfl ?_
    conv => whnf
    have rB : ∀ (i : Int) (n : Nat), i = n → n < 64 → rd h ⟨bb, 0 + i.toNat, none⟩ = some (u8v (l.getD n 0)) := fun i n e hn => by
      subst e
      refine c.B.rd ?_
      rw [show 0 + ((n : Int)).toNat = n by omega]
      exact map_get u8v l n 0 (by omega)
    have e0 := i64_eq (4 * (t : Int)) (4 * t) (by omega) (by omega)
    have e1 := i64_eq (IntKind.i64.wrap (4 * (t : Int)) + 1) (4 * t + 1) (by omega) (by omega)
    have e2 := i64_eq (IntKind.i64.wrap (4 * (t : Int)) + 2) (4 * t + 2) (by omega) (by omega)
    have e3 := i64_eq (IntKind.i64.wrap (4 * (t : Int)) + 3) (4 * t + 3) (by omega) (by omega)
    refine ⟨⟨by omega, by omega⟩, ?_⟩
    conv => whnf
    refine ⟨_, rB _ _ e0 (by omega), ?_⟩
    conv => whnf
    refine ⟨by decide, ?_⟩
    conv => whnf
    refine ⟨⟨by omega, by omega⟩, ?_⟩
    conv => whnf
    refine ⟨_, rB _ _ e1 (by omega), ?_⟩
    conv => whnf
    refine ⟨by decide, ?_⟩
    conv => whnf
    refine ⟨⟨by omega, by omega⟩, ?_⟩
    conv => whnf
    refine ⟨_, rB _ _ e2 (by omega), ?_⟩
    conv => whnf
    refine ⟨by decide, ?_⟩
    conv => whnf
    refine ⟨⟨by omega, by omega⟩, ?_⟩
    conv => whnf
    refine ⟨_, rB _ _ e3 (by omega), ?_⟩
    conv => whnf
    refine ⟨⟨by omega, by omega⟩, ?_⟩
    conv => whnf
    intro h' x'
    conv => whnf
    refine ⟨_, _, (c.more x').W, by simp [wcells, Sha.words_length]; omega, ?_⟩
    intro h'' w
    have w := w.cast (l' := wcells l (t + 1)) (by
      rw [← wcells_set l t hlt]
      exact congr (congrArg (List.set (wcells l t)) (show 0 + ((t : Int)).toNat = t by omega)) (congrArg (Value.int .u32) (be_eq _ _ _ _)))
    refine cw_region rfl ?_
    exact ⟨t + 1, ⟨rfl, rfl, rfl, rfl, rfl, slot_i64 _ _ (by omega) (by omega), trivial⟩, ⟨by omega, (c.more x').wrote w rfl⟩, by omega⟩
  · refine cw_seq (cw_no rfl (by omega) (cw_exit ?_))
    have t16 : t = 16 := by omega
    subst t16
    -- the forty-eight words behind them
    refine cw_seq (cw_seq (cw_region rfl ?_))
    refine cw_block ?_
    refine cw_loop (S := Nat) (fun t => [(2, .pointer (some ⟨hb, 0, none⟩)), (4, .pointer (some ⟨rb, 0, none⟩)), (5, .pointer (some ⟨kb, 0, none⟩)), (6, .pointer (some ⟨wb, 0, none⟩)), (8, .int .i64 ((16 + t : Nat) : Int))])
      (fun t h => t ≤ 48 ∧ CC h0 hb bb rb kb wb s l (vcells l t) h) (fun t => 48 - t) 0 ⟨rfl, rfl, rfl, rfl, rfl, trivial⟩ ⟨by omega, vcells_zero l ▸ c⟩ ?_
    clear c h hlt ht
    rintro t h ⟨ht, c⟩
    refine cw_seq (cw_seq (cw_region rfl ?_))
    by_cases hlt : t < 48
    · refine cw_yes rfl (by omega) (cw_skip ?_)
      have rW : ∀ (h : Heap), CC h0 hb bb rb kb wb s l (vcells l t) h → ∀ (i : Int) (n : Nat), i = n → n < 16 + t → rd h ⟨wb, 0 + i.toNat, none⟩ = some (u32v ((Sha.ext (Sha.words l 16) t).getD n 0)) := fun h c i n e hn => by
        subst e
        refine c.W.rd ?_
        rw [show 0 + ((n : Int)).toNat = n by omega]
        unfold vcells
        rw [List.getElem?_append_left (by simp [Sha.ext_length, Sha.words_length]; omega)]
        exact map_get u32v _ n 0 (by simp [Sha.ext_length, Sha.words_length]; omega)
      have i15 := i64_eq (((16 + t : Nat) : Int) - 15) (16 + t - 15) (by omega) (by omega)
      have i2 := i64_eq (((16 + t : Nat) : Int) - 2) (16 + t - 2) (by omega) (by omega)
      have i16 := i64_eq (((16 + t : Nat) : Int) - 16) (16 + t - 16) (by omega) (by omega)
      have i7 := i64_eq (((16 + t : Nat) : Int) - 7) (16 + t - 7) (by omega) (by omega)
      refine cw_seq (cw_block (cw_seq ?_))
      refine cw_drawn (by kernel_rfl) 9 (fun _ => false) (List.range 9) (by kernel_rfl) rfl ?_
      conv => whnf
      refine ⟨⟨by omega, by omega⟩, ?_⟩
      conv => whnf
      refine ⟨_, rW h c _ _ i15 (by omega), ?_⟩
      conv => whnf
      refine ⟨⟨by omega, by omega⟩, ?_⟩
      conv => whnf
      refine ⟨_, rW h c _ _ i2 (by omega), ?_⟩
      conv => whnf
      intro h1 e1
      replace c := c.more e1
      refine cw_seq (cw_region rfl ?_)
      conv => whnf
      refine ⟨_, rfl, _, rot _ 7 (-7) (by kernel_rfl) (by omega) (by omega) _, ?_⟩
      rintro _ _ ⟨rfl, rfl⟩
      conv => whnf
      refine ⟨_, rfl, _, rot _ 18 (-18) (by kernel_rfl) (by omega) (by omega) _, ?_⟩
      rintro _ _ ⟨rfl, rfl⟩
      conv => whnf
      refine ⟨by decide, ?_⟩
      refine cw_keep [(2, .pointer (some ⟨hb, 0, none⟩)), (4, .pointer (some ⟨rb, 0, none⟩)), (5, .pointer (some ⟨kb, 0, none⟩)), (6, .pointer (some ⟨wb, 0, none⟩)), (8, .int .i64 ((16 + t : Nat) : Int)),
        (10, u32v ((Sha.ext (Sha.words l 16) t).getD (16 + t - 2) 0)), (11, u32v (Sha.s0 ((Sha.ext (Sha.words l 16) t).getD (16 + t - 15) 0)))]
        ⟨rfl, rfl, rfl, rfl, rfl, rfl, congrArg (fun i => some (Value.int .u32 i)) (s0_eq _), trivial⟩ ?_
      refine cw_seq (cw_region rfl ?_)
      conv => whnf
      refine ⟨_, rfl, _, rot _ 17 (-17) (by kernel_rfl) (by omega) (by omega) _, ?_⟩
      rintro _ _ ⟨rfl, rfl⟩
      conv => whnf
      refine ⟨_, rfl, _, rot _ 19 (-19) (by kernel_rfl) (by omega) (by omega) _, ?_⟩
      rintro _ _ ⟨rfl, rfl⟩
      conv => whnf
      refine ⟨by decide, ?_⟩
      refine cw_keep [(2, .pointer (some ⟨hb, 0, none⟩)), (4, .pointer (some ⟨rb, 0, none⟩)), (5, .pointer (some ⟨kb, 0, none⟩)), (6, .pointer (some ⟨wb, 0, none⟩)), (8, .int .i64 ((16 + t : Nat) : Int)),
        (11, u32v (Sha.s0 ((Sha.ext (Sha.words l 16) t).getD (16 + t - 15) 0))), (12, u32v (Sha.s1 ((Sha.ext (Sha.words l 16) t).getD (16 + t - 2) 0)))]
        ⟨rfl, rfl, rfl, rfl, rfl, rfl, congrArg (fun i => some (Value.int .u32 i)) (s1_eq _), trivial⟩ ?_
      refine cw_drawn (by kernel_rfl) 15 (fun _ => false) (List.range 15) (by kernel_rfl) rfl ?_
      conv => whnf
      refine ⟨⟨by omega, by omega⟩, ?_⟩
      conv => whnf
      refine ⟨_, rW _ c _ _ i16 (by omega), ?_⟩
      conv => whnf
      refine ⟨⟨by omega, by omega⟩, ?_⟩
      conv => whnf
      refine ⟨_, rW _ c _ _ i7 (by omega), ?_⟩
      conv => whnf
      refine ⟨⟨by omega, by omega⟩, ?_⟩
      conv => whnf
      intro h2 e2
      conv => whnf
      refine ⟨_, _, (c.more e2).W, by simp [vcells, Sha.ext_length, Sha.words_length]; omega, ?_⟩
      intro h3 w
      have w := w.cast (l' := vcells l (t + 1)) (by
        rw [← vcells_set l t hlt]
        exact congr (congrArg (List.set (vcells l t)) (show 0 + (((16 + t : Nat) : Int)).toNat = 16 + t by omega)) (congrArg (Value.int .u32) (next_eq _ _ _ _)))
      refine cw_region rfl ?_
      exact ⟨t + 1, ⟨rfl, rfl, rfl, rfl, slot_i64 _ _ (by omega) (by omega), trivial⟩, ⟨by omega, (c.more e2).wrote w rfl⟩, by omega⟩
    · refine cw_no rfl (by omega) (cw_exit ?_)
      have t48 : t = 48 := by omega
      subst t48
      rw [wcells_sched] at c
      -- the state
      refine cw_seq (cw_region rfl ?_)
      conv => whnf
      refine ⟨_, by rfl, c.H.all, ?_⟩
      conv => whnf
      intro h1 n1
      conv => whnf
      refine ⟨_, _, n1.blk, ⟨Nat.le_refl 8, by rfl, by simp [u32v, Value.oneCell', Sha.S8.list]⟩, ?_⟩
      intro h2 w2
      replace c : CS h0 hb bb rb kb wb h.size s l ((Sha.sched l).map u32v) ((Sha.rounds (Sha.sched l) s 0).list.map u32v) h2 := by
        have lb := c.lb
        have l1 := c.H.lt; have l2 := c.B.lt; have l3 := c.R.lt; have l4 := c.K.lt; have l5 := c.W.lt
        have k := c.more n1.ext
        exact ⟨⟨c.lb, ⟨by rw [w2.size]; exact k.ext.size, fun b hb' => by rw [w2.block b (by have := c.ext.size; omega)]; exact k.ext.block b hb'⟩, w2.blk k.H (by omega), w2.blk k.B (by omega), w2.blk k.R (by omega), w2.blk k.K (by omega), w2.blk k.W (by omega)⟩, l5, w2.new⟩
      generalize h.size = sb at *
      clear n1 w2 ht hlt h1
      refine cw_seq (cw_seq (cw_region rfl ?_))
      refine cw_block ?_
      refine cw_loop (S := Nat) (fun t => [(2, .pointer (some ⟨hb, 0, none⟩)), (4, .pointer (some ⟨rb, 0, none⟩)), (5, .pointer (some ⟨kb, 0, none⟩)), (6, .pointer (some ⟨wb, 0, none⟩)), (13, .pointer (some ⟨sb, 0, none⟩)), (102, .int .i64 (t : Int))])
        (fun t h => t ≤ 64 ∧ CS h0 hb bb rb kb wb sb s l ((Sha.sched l).map u32v) ((Sha.rounds (Sha.sched l) s t).list.map u32v) h) (fun t => 64 - t) 0 ⟨rfl, rfl, rfl, rfl, rfl, rfl, trivial⟩ ⟨by omega, c⟩ ?_
      clear c h h2
      rintro t h ⟨ht, c⟩
      refine cw_seq (cw_region rfl ?_)
      by_cases hlt : t < 64
      · refine cw_seq (cw_yes rfl (by omega) (cw_skip ?_))
        generalize hst : Sha.rounds (Sha.sched l) s t = st at *
        have rS : ∀ (h : Heap), CS h0 hb bb rb kb wb sb s l ((Sha.sched l).map u32v) (st.list.map u32v) h → ∀ (n : Nat) (v : Value), (st.list.map u32v)[n]? = some v → rd h ⟨sb, n, none⟩ = some v := fun h c n v hv => c.S.rd hv
        refine cw_seq (cw_block (cw_seq (cw_region rfl ?_)))
        refine cw_seq ?_
        refine cw_drawn (by kernel_rfl) 5 (fun _ => false) (List.range 5) (by kernel_rfl) rfl ?_
        conv => whnf
        refine ⟨⟨by decide, by decide⟩, ?_⟩
        conv => whnf
        refine ⟨_, rS h c 4 (u32v st.e) rfl, ?_⟩
        conv => whnf
        refine ⟨⟨by decide, by decide⟩, ?_⟩
        conv => whnf
        refine ⟨_, rS h c 0 (u32v st.a) rfl, ?_⟩
        conv => whnf
        intro h1 e1
        replace c := c.more e1
        refine cw_seq (cw_region rfl ?_)
        conv => whnf
        refine ⟨_, rfl, _, rot st.e 6 (-6) (by kernel_rfl) (by omega) (by omega) _, ?_⟩
        rintro _ _ ⟨rfl, rfl⟩
        conv => whnf
        refine ⟨_, rfl, _, rot st.e 11 (-11) (by kernel_rfl) (by omega) (by omega) _, ?_⟩
        rintro _ _ ⟨rfl, rfl⟩
        conv => whnf
        refine ⟨_, rfl, _, rot st.e 25 (-25) (by kernel_rfl) (by omega) (by omega) _, ?_⟩
        rintro _ _ ⟨rfl, rfl⟩
        refine cw_keep [(2, .pointer (some ⟨hb, 0, none⟩)), (4, .pointer (some ⟨rb, 0, none⟩)), (5, .pointer (some ⟨kb, 0, none⟩)), (6, .pointer (some ⟨wb, 0, none⟩)), (13, .pointer (some ⟨sb, 0, none⟩)), (102, .int .i64 (t : Int)),
          (14, .int .i64 (t : Int)), (15, u32v st.e), (16, u32v st.a), (17, u32v (Sha.S1 st.e))]
          ⟨rfl, rfl, rfl, rfl, rfl, rfl, rfl, rfl, rfl, congrArg (fun i => some (Value.int .u32 i)) (S1_eq _), trivial⟩ ?_
        refine cw_seq ?_
        refine cw_drawn (by kernel_rfl) 23 (fun _ => false) (List.range 23) (by kernel_rfl) rfl ?_
        conv => whnf
        refine ⟨⟨by decide, by decide⟩, ?_⟩
        conv => whnf
        refine ⟨_, rS _ c 7 (u32v st.h) rfl, ?_⟩
        conv => whnf
        refine ⟨⟨by decide, by decide⟩, ?_⟩
        conv => whnf
        refine ⟨_, rS _ c 5 (u32v st.f) rfl, ?_⟩
        conv => whnf
        refine ⟨⟨by decide, by decide⟩, ?_⟩
        conv => whnf
        refine ⟨_, rS _ c 6 (u32v st.g) rfl, ?_⟩
        conv => whnf
        refine ⟨⟨by omega, by omega⟩, ?_⟩
        conv => whnf
        refine ⟨u32v (Sha.K.getD t 0), c.c.K.rd (by rw [show 0 + ((t : Int)).toNat = t by omega]; exact map_get u32v _ t 0 hlt), ?_⟩
        conv => whnf
        refine ⟨⟨by omega, by omega⟩, ?_⟩
        conv => whnf
        refine ⟨u32v ((Sha.sched l).getD t 0), c.c.W.rd (by rw [show 0 + ((t : Int)).toNat = t by omega]; exact map_get u32v _ t 0 (by rw [Sha.sched_length]; exact hlt)), ?_⟩
        conv => whnf
        intro h2 e2
        replace c := c.more e2
        refine cw_keep [(2, .pointer (some ⟨hb, 0, none⟩)), (4, .pointer (some ⟨rb, 0, none⟩)), (5, .pointer (some ⟨kb, 0, none⟩)), (6, .pointer (some ⟨wb, 0, none⟩)), (13, .pointer (some ⟨sb, 0, none⟩)), (102, .int .i64 (t : Int)),
          (15, u32v st.e), (16, u32v st.a), (18, u32v (Sha.t1 st (Sha.K.getD t 0) ((Sha.sched l).getD t 0)))]
          ⟨rfl, rfl, rfl, rfl, rfl, rfl, rfl, rfl, congrArg (fun i => some (Value.int .u32 i)) (t1_eq _ _ _), trivial⟩ ?_
        refine cw_seq (cw_region rfl ?_)
        conv => whnf
        refine ⟨_, rfl, _, rot st.a 2 (-2) (by kernel_rfl) (by omega) (by omega) _, ?_⟩
        rintro _ _ ⟨rfl, rfl⟩
        conv => whnf
        refine ⟨_, rfl, _, rot st.a 13 (-13) (by kernel_rfl) (by omega) (by omega) _, ?_⟩
        rintro _ _ ⟨rfl, rfl⟩
        conv => whnf
        refine ⟨_, rfl, _, rot st.a 22 (-22) (by kernel_rfl) (by omega) (by omega) _, ?_⟩
        rintro _ _ ⟨rfl, rfl⟩
        refine cw_keep [(2, .pointer (some ⟨hb, 0, none⟩)), (4, .pointer (some ⟨rb, 0, none⟩)), (5, .pointer (some ⟨kb, 0, none⟩)), (6, .pointer (some ⟨wb, 0, none⟩)), (13, .pointer (some ⟨sb, 0, none⟩)), (102, .int .i64 (t : Int)),
          (15, u32v st.e), (16, u32v st.a), (18, u32v (Sha.t1 st (Sha.K.getD t 0) ((Sha.sched l).getD t 0))), (19, u32v (Sha.S0 st.a))]
          ⟨rfl, rfl, rfl, rfl, rfl, rfl, rfl, rfl, rfl, congrArg (fun i => some (Value.int .u32 i)) (S0_eq _), trivial⟩ ?_
        refine cw_seq (cw_region rfl ?_)
        conv => whnf
        refine ⟨⟨by decide, by decide⟩, ?_⟩
        conv => whnf
        refine ⟨_, rS _ c 1 (u32v st.b) rfl, ?_⟩
        conv => whnf
        refine ⟨⟨by decide, by decide⟩, ?_⟩
        conv => whnf
        refine ⟨_, rS _ c 2 (u32v st.c) rfl, ?_⟩
        conv => whnf
        refine ⟨⟨by decide, by decide⟩, ?_⟩
        conv => whnf
        refine ⟨_, rS _ c 1 (u32v st.b) rfl, ?_⟩
        conv => whnf
        refine ⟨⟨by decide, by decide⟩, ?_⟩
        conv => whnf
        refine ⟨_, rS _ c 2 (u32v st.c) rfl, ?_⟩
        refine cw_keep [(2, .pointer (some ⟨hb, 0, none⟩)), (4, .pointer (some ⟨rb, 0, none⟩)), (5, .pointer (some ⟨kb, 0, none⟩)), (6, .pointer (some ⟨wb, 0, none⟩)), (13, .pointer (some ⟨sb, 0, none⟩)), (102, .int .i64 (t : Int)),
          (15, u32v st.e), (16, u32v st.a), (18, u32v (Sha.t1 st (Sha.K.getD t 0) ((Sha.sched l).getD t 0))), (20, u32v (Sha.t2 st))]
          ⟨rfl, rfl, rfl, rfl, rfl, rfl, rfl, rfl, rfl, congrArg (fun i => some (Value.int .u32 i)) (t2_eq _), trivial⟩ ?_
        refine cw_region rfl ?_
        conv => whnf
        refine ⟨⟨by decide, by decide⟩, ?_⟩
        conv => whnf
        refine ⟨_, rS _ c 1 (u32v st.b) rfl, ?_⟩
        conv => whnf
        refine ⟨⟨by decide, by decide⟩, ?_⟩
        conv => whnf
        refine ⟨_, rS _ c 2 (u32v st.c) rfl, ?_⟩
        conv => whnf
        refine ⟨⟨by decide, by decide⟩, ?_⟩
        conv => whnf
        refine ⟨_, rS _ c 3 (u32v st.d) rfl, ?_⟩
        conv => whnf
        refine ⟨⟨by decide, by decide⟩, ?_⟩
        conv => whnf
        refine ⟨_, rS _ c 5 (u32v st.f) rfl, ?_⟩
        conv => whnf
        refine ⟨⟨by decide, by decide⟩, ?_⟩
        conv => whnf
        refine ⟨_, rS _ c 6 (u32v st.g) rfl, ?_⟩
        conv => whnf
        generalize hk : Sha.K.getD t 0 = kt at *
        generalize hw : (Sha.sched l).getD t 0 = wt at *
        refine ⟨_, rfl, #[.int .u32 (IntKind.u32.wrap (((Sha.t1 st kt wt).toNat : Int) + ((Sha.t2 st).toNat : Int))), u32v st.a, u32v st.b, u32v st.c, .int .u32 (IntKind.u32.wrap ((st.d.toNat : Int) + ((Sha.t1 st kt wt).toNat : Int))), u32v st.e, u32v st.f, u32v st.g], fun w => by kernel_rfl, ?_⟩
        rw [wrap_add32, wrap_add32]
        conv => whnf
        refine ⟨_, _, c.S, ⟨Nat.le_refl 8, by rfl, by simp [u32v, Value.oneCell']⟩, ?_⟩
        intro h3 w3
        have w3 := w3.cast (l' := (Sha.rounds (Sha.sched l) s (t + 1)).list.map u32v) (by
          simp only [Sha.rounds, hst, hk, hw]
          rfl)
        refine cw_region rfl ?_
        exact ⟨t + 1, ⟨rfl, rfl, rfl, rfl, rfl, slot_i64 _ _ (by omega) (by omega), trivial⟩, ⟨by omega, c.wrote w3 rfl⟩, by omega⟩
      · refine cw_seq (cw_no rfl (by omega) (cw_exit ?_))
        have t64 : t = 64 := by omega
        subst t64
        generalize hr : Sha.rounds (Sha.sched l) s 64 = r at *
        -- the sum
        refine cw_seq (cw_seq (cw_region rfl ?_))
        refine cw_block ?_
        refine cw_loop (S := Nat) (fun t => [(2, .pointer (some ⟨hb, 0, none⟩)), (4, .pointer (some ⟨rb, 0, none⟩)), (13, .pointer (some ⟨sb, 0, none⟩)), (184, .int .i64 (t : Int))])
          (fun t h => t ≤ 8 ∧ CS h0 hb bb rb kb wb sb s l ((Sha.sched l).map u32v) (acells r s t) h) (fun t => 8 - t) 0 ⟨rfl, rfl, rfl, rfl, trivial⟩ ⟨by omega, c⟩ ?_
        clear c h ht hlt
        rintro t h ⟨ht, c⟩
        refine cw_seq (cw_region rfl ?_)
        by_cases hlt : t < 8
        · refine cw_seq (cw_yes rfl (by omega) (cw_skip ?_))
          refine cw_seq (cw_block (cw_seq (cw_region rfl ?_)))
          refine cw_drawn (by kernel_rfl) 8 (fun _ => false) (List.range 8) (by kernel_rfl) rfl ?_
          conv => whnf
          refine ⟨⟨by omega, by omega⟩, ?_⟩
          conv => whnf
          refine ⟨u32v (r.list.getD t 0), c.S.rd (by rw [show 0 + ((t : Int)).toNat = t by omega]; exact acells_get r s t hlt), ?_⟩
          conv => whnf
          refine ⟨⟨by omega, by omega⟩, ?_⟩
          conv => whnf
          refine ⟨u32v (s.list.getD t 0), c.c.H.rd (by rw [show 0 + ((t : Int)).toNat = t by omega]; exact map_get u32v _ t 0 (by simpa [Sha.S8.list] using hlt)), ?_⟩
          conv => whnf
          refine ⟨⟨by omega, by omega⟩, ?_⟩
          conv => whnf
          intro h1 e1
          conv => whnf
          refine ⟨_, _, (c.more e1).S, by simp [acells, Sha.S8.list]; omega, ?_⟩
          intro h2 w
          have w := w.cast (l' := acells r s (t + 1)) (by
            rw [← acells_set r s t hlt]
            exact congr (congrArg (List.set (acells r s t)) (show 0 + ((t : Int)).toNat = t by omega)) (congrArg (Value.int .u32) (wrap_add32 _ _)))
          refine cw_region rfl ?_
          exact ⟨t + 1, ⟨rfl, rfl, rfl, slot_i64 _ _ (by omega) (by omega), trivial⟩, ⟨by omega, (c.more e1).wrote w rfl⟩, by omega⟩
        · refine cw_seq (cw_no rfl (by omega) (cw_exit ?_))
          have t8 : t = 8 := by omega
          subst t8
          have ea : acells r s 8 = ((Sha.compress s l).list.map u32v) := by
            subst hr
            rfl
          rw [ea] at c
          refine cw_seq (cw_region rfl ?_)
          conv => whnf
          refine ⟨_, by rfl, c.S.all, ?_⟩
          conv => whnf
          refine ⟨_, _, c.c.R, ⟨Nat.le_refl 8, by rfl, by simp [u32v, Value.oneCell', Sha.S8.list]⟩, ?_⟩
          intro h1 w1
          refine cw_ret ?_
          refine ⟨_, by rfl, w1.new.all, rfl, ?_⟩
          have lb := c.c.lb
          exact ⟨by rw [w1.size]; exact c.c.ext.size, fun b hb' => by rw [w1.block b (by omega)]; exact c.c.ext.block b hb'⟩
end Go.Proofs.YtgecapllodgdeaaGreatDoor
