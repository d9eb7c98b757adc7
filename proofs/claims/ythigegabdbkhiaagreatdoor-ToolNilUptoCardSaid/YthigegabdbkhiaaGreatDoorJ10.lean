/-
  Check sums: a byte by the table is the byte bit by bit (plain law).
    Check sums: the walks of package crc and of the document's.
    Bytes with their check sum behind them: the program's Seal and the document's.
-/
import Derived.Test.YthigegabdbkhiaaGreatDoorJ9
namespace Go.Proofs.YthigegabdbkhiaaGreatDoor.Crc
set_option linter.unusedVariables false
def poly : UInt32 := 2197175160
def c1 (c : UInt32) : UInt32 := if c &&& 1 = 1 then (c >>> 1) ^^^ poly else c >>> 1
def cN : Nat → UInt32 → UInt32
  | 0, c => c
  | n + 1, c => c1 (cN n c)
/-- behind one byte -/
def on (c : UInt32) (b : UInt8) : UInt32 := cN 8 (c ^^^ b.toUInt32)
/-- behind one byte, by the table -/
def tab (c : UInt32) (b : UInt8) : UInt32 := (c >>> 8) ^^^ cN 8 (c.toUInt8 ^^^ b).toUInt32
def onAll (c : UInt32) (l : List UInt8) : UInt32 := l.foldl on c
def sum (l : List UInt8) : UInt32 := ~~~ onAll (~~~ 0) l
def bytes4 (c : UInt32) : List UInt8 := [c.toUInt8, (c >>> 8).toUInt8, (c >>> 16).toUInt8, (c >>> 24).toUInt8]
def sealB (l : List UInt8) : List UInt8 := l ++ bytes4 (sum l)
theorem low1 (c : UInt32) : (c &&& 1 = 1) ↔ c.toBitVec.getLsbD 0 = true := by
  have h1 : (c &&& 1 = 1) ↔ (c &&& 1).toBitVec = 1#32 := ⟨fun h => by rw [h]; rfl, fun h => UInt32.toBitVec_inj.1 (by rw [h]; rfl)⟩
  rw [h1]
  have h2 : (c &&& 1).toBitVec = c.toBitVec &&& 1#32 := rfl
  rw [h2]
  constructor
  · intro h
    have := congrArg (fun v : BitVec 32 => v.getLsbD 0) h
    simpa using this
  · intro h
    apply BitVec.eq_of_getLsbD_eq
    intro i hi
    simp only [BitVec.getLsbD_and]
    by_cases e : i = 0
    · subst e; simp [h]
    · simp [BitVec.getLsbD_one, e]
theorem c1_eq (c : UInt32) : c1 c = (c >>> 1) ^^^ (if c.toBitVec.getLsbD 0 then poly else 0) := by
  unfold c1
  by_cases h : c.toBitVec.getLsbD 0 = true
  · rw [if_pos ((low1 c).2 h), if_pos h]
  · rw [if_neg (fun e => h ((low1 c).1 e)), if_neg h]; simp
theorem shr_xor (a b : UInt32) (n : UInt32) : (a ^^^ b) >>> n = (a >>> n) ^^^ (b >>> n) := by
  apply UInt32.toBitVec_inj.1
  simp [BitVec.ushiftRight_xor_distrib]
theorem c1_xor (a b : UInt32) : c1 (a ^^^ b) = c1 a ^^^ c1 b := by
  rw [c1_eq, c1_eq a, c1_eq b, shr_xor]
  have e : (a ^^^ b).toBitVec.getLsbD 0 = (a.toBitVec.getLsbD 0 ^^ b.toBitVec.getLsbD 0) := by
    rw [show (a ^^^ b).toBitVec = a.toBitVec ^^^ b.toBitVec from rfl, BitVec.getLsbD_xor]
  rw [e]
  cases a.toBitVec.getLsbD 0 <;> cases b.toBitVec.getLsbD 0
  · simp
  · simp [UInt32.xor_assoc]
  · simp only [Bool.xor_false, if_true, Bool.false_eq_true, if_false, UInt32.xor_zero]
    rw [UInt32.xor_assoc, UInt32.xor_comm (b >>> 1), ← UInt32.xor_assoc]
  · simp only [Bool.xor_self, Bool.false_eq_true, if_false, if_true, UInt32.xor_zero]
    rw [UInt32.xor_assoc (a >>> 1) poly, ← UInt32.xor_assoc poly, UInt32.xor_comm poly (b >>> 1), UInt32.xor_assoc (b >>> 1), UInt32.xor_self, UInt32.xor_zero]
theorem cN_xor (n : Nat) (a b : UInt32) : cN n (a ^^^ b) = cN n a ^^^ cN n b := by
  induction n with
  | zero => rfl
  | succ n ih => show c1 (cN n (a ^^^ b)) = _; rw [ih, c1_xor]; rfl
theorem cN_high (n : Nat) (hn : n ≤ 31) (a : UInt32) (h : ∀ i, i < n → a.toBitVec.getLsbD i = false) : cN n a = a >>> UInt32.ofNat n := by
  induction n with
  | zero => show a = _; apply UInt32.toBitVec_inj.1; simp
  | succ n ih =>
    show c1 (cN n a) = _
    rw [ih (by omega) (fun i hi => h i (by omega)), c1_eq]
    have hm : ∀ k, k ≤ 31 → (a >>> UInt32.ofNat k).toBitVec = a.toBitVec >>> k := fun k hk => by
      apply BitVec.eq_of_toNat_eq
      simp
      first | done | rfl | (congr 1; omega)
    have e : (a >>> UInt32.ofNat n).toBitVec.getLsbD 0 = false := by
      rw [hm n (by omega), BitVec.getLsbD_ushiftRight]
      exact h n (by omega)
    rw [if_neg (by rw [e]; decide), UInt32.xor_zero]
    apply UInt32.toBitVec_inj.1
    rw [hm (n + 1) hn]
    have : (a >>> UInt32.ofNat n >>> 1).toBitVec = (a >>> UInt32.ofNat n).toBitVec >>> 1 := by
      apply BitVec.eq_of_toNat_eq
      simp
    rw [this, hm n (by omega)]
    exact (BitVec.shiftRight_add _ _ _).symm
theorem tab_on (c : UInt32) (b : UInt8) : tab c b = on c b := by
  unfold tab on
  have hlo : c ^^^ b.toUInt32 = (c ^^^ c.toUInt8.toUInt32) ^^^ (c.toUInt8 ^^^ b).toUInt32 := by
    have e : (c.toUInt8 ^^^ b).toUInt32 = c.toUInt8.toUInt32 ^^^ b.toUInt32 := by
      apply UInt32.toNat.inj
      simp
    rw [e, UInt32.xor_assoc, ← UInt32.xor_assoc c.toUInt8.toUInt32, UInt32.xor_self, UInt32.zero_xor]
  have hz : ∀ i, i < 8 → (c ^^^ c.toUInt8.toUInt32).toBitVec.getLsbD i = false := by
    intro i hi
    have : (c ^^^ c.toUInt8.toUInt32).toBitVec = c.toBitVec ^^^ (c.toBitVec.setWidth 8).setWidth 32 := by
      apply BitVec.eq_of_toNat_eq
      simp
      rw [Nat.mod_eq_of_lt (show c.toNat % 256 < 4294967296 by omega)]
    rw [this]
    simp [BitVec.getLsbD_xor, BitVec.getLsbD_setWidth, hi]
    omega
  rw [hlo, cN_xor, cN_high 8 (by decide) _ hz]
  congr 1
  apply UInt32.toNat.inj
  simp [Nat.shiftRight_xor_distrib]
  have : (c.toNat % 256) >>> 8 = 0 := by rw [Nat.shiftRight_eq_div_pow]; omega
  rw [this]
  simp
end Go.Proofs.YthigegabdbkhiaaGreatDoor.Crc
namespace Go.Proofs.YthigegabdbkhiaaGreatDoor
open Go Vm
set_option maxRecDepth 100000
set_option linter.unusedVariables false
set_option linter.unusedSimpArgs false
theorem u32v_one (c : UInt32) : bits .and .u32 (c.toNat : Int) 1 = ((c &&& 1).toNat : Int) := and32 c 1
theorem u32v_poly (c : UInt32) : bits .xor .u32 (c.toNat : Int) 2197175160 = ((c ^^^ Crc.poly).toNat : Int) := xor32 c Crc.poly
theorem u32_is1 (c : UInt32) : ((c.toNat : Int) = 1) ↔ c = 1 := by
  constructor
  · intro h; apply UInt32.toNat.inj; show c.toNat = 1; omega
  · rintro rfl; rfl
theorem c1_yes {c : UInt32} (h : c &&& 1 = 1) : Crc.c1 c = (c >>> 1) ^^^ Crc.poly := if_pos h
theorem c1_no {c : UInt32} (h : ¬ c &&& 1 = 1) : Crc.c1 c = c >>> 1 := if_neg h
theorem shr_1 (c : UInt32) : (c.toNat : Int) / 2 ^ 1 = ((c >>> 1).toNat : Int) := shr32 c 1 (by decide)
theorem step_fn (c : UInt32) (h : Heap) : Fx Tryz.prog 221 #[u32v c] h fun u h' => u = u32v (Crc.cN 8 c) ∧ h' = h := by
  refine fn_of 15 Tryz.func221 rfl (by kernel_rfl) rfl (by simp) ?_
  refine cw_seq (cw_go rfl ?_)
  conv => whnf
  refine cw_seq (cw_seq (cw_go rfl ?_))
  conv => whnf
  refine cw_block ?_
  refine cw_loop (S := Nat) (fun i => [(0, u32v (Crc.cN i c)), (3, .int .i64 (i : Int))]) (fun i h' => i ≤ 8 ∧ h' = h) (fun i => 8 - i) 0 ⟨rfl, rfl, trivial⟩ ⟨by decide, rfl⟩ ?_
  rintro i _ ⟨hi, rfl⟩
  refine cw_seq (cw_go rfl ?_)
  conv => whnf
  by_cases h8 : i < 8
  · refine say_t (by omega) ?_
    refine cw_seq (cw_true rfl (cw_skip ?_))
    refine cw_seq (cw_block ?_)
    have hn : Crc.cN (i + 1) c = Crc.c1 (Crc.cN i c) := rfl
    generalize Crc.cN i c = d at hn ⊢
    refine cw_seq (cw_go rfl ?_)
    conv => whnf
    refine say_w (u32v_one d) ?_
    conv => whnf
    by_cases hd : d &&& 1 = 1
    · refine say_t ((u32_is1 _).2 hd) ?_
      refine cw_true rfl ?_
      refine cw_go rfl ?_
      conv => whnf
      refine And.intro (by decide) ?_
      refine say_w (shr_1 d) ?_
      conv => whnf
      refine say_w (u32v_poly _) ?_
      conv => whnf
      refine cw_go rfl ?_
      conv => whnf
      refine say_i (by omega) ?_
      exact ⟨i + 1, ⟨by rw [hn, c1_yes hd]; rfl, rfl, trivial⟩, ⟨by omega, rfl⟩, by omega⟩
    · refine say_f (fun e => hd ((u32_is1 _).1 e)) ?_
      refine cw_false rfl ?_
      refine cw_go rfl ?_
      conv => whnf
      refine And.intro (by decide) ?_
      refine say_w (shr_1 d) ?_
      conv => whnf
      refine cw_go rfl ?_
      conv => whnf
      refine say_i (by omega) ?_
      exact ⟨i + 1, ⟨by rw [hn, c1_no hd]; rfl, rfl, trivial⟩, ⟨by omega, rfl⟩, by omega⟩
  · refine say_f (by omega) ?_
    refine cw_seq (cw_false rfl (cw_exit ?_))
    have : i = 8 := by omega
    subst this
    refine cw_seq (cw_go rfl ?_)
    conv => whnf
    exact cw_ret ⟨rfl, rfl⟩
theorem byteOn_fn (c : UInt32) (b : UInt8) (h : Heap) : Fx Tryz.prog 155 #[u32v c, u8v b] h fun u h' => u = u32v (Crc.on c b) ∧ h' = h := by
  refine fn_of 23 Tryz.func155 rfl (by kernel_rfl) rfl (by simp) ?_
  refine cw_seq (cw_go rfl ?_)
  conv => whnf
  refine cw_seq (cw_go rfl ?_)
  conv => whnf
  refine say_w (y := (b.toUInt32.toNat : Int)) (by rw [wrap32_8]; simp) ?_
  conv => whnf
  refine say_w (xor32 c b.toUInt32) ?_
  conv => whnf
  unfold Crc.on
  generalize c ^^^ b.toUInt32 = c
  refine cw_seq (cw_seq (cw_go rfl ?_))
  conv => whnf
  refine cw_block ?_
  refine cw_loop (S := Nat) (fun i => [(0, u32v (Crc.cN i c)), (5, .int .i64 (i : Int))]) (fun i h' => i ≤ 8 ∧ h' = h) (fun i => 8 - i) 0 ⟨rfl, rfl, trivial⟩ ⟨by decide, rfl⟩ ?_
  rintro i _ ⟨hi, rfl⟩
  refine cw_seq (cw_seq (cw_go rfl ?_))
  conv => whnf
  by_cases h8 : i < 8
  · refine say_t (by omega) ?_
    refine cw_true rfl (cw_skip ?_)
    refine cw_seq (cw_block ?_)
    have hn : Crc.cN (i + 1) c = Crc.c1 (Crc.cN i c) := rfl
    generalize Crc.cN i c = d at hn ⊢
    refine cw_seq (cw_go rfl ?_)
    conv => whnf
    refine say_w (u32v_one d) ?_
    conv => whnf
    by_cases hd : d &&& 1 = 1
    · refine say_t ((u32_is1 _).2 hd) ?_
      refine cw_true rfl ?_
      refine cw_go rfl ?_
      conv => whnf
      refine And.intro (by decide) ?_
      refine say_w (shr_1 d) ?_
      conv => whnf
      refine say_w (u32v_poly _) ?_
      conv => whnf
      refine cw_go rfl ?_
      conv => whnf
      refine say_i (by omega) ?_
      exact ⟨i + 1, ⟨by rw [hn, c1_yes hd]; rfl, rfl, trivial⟩, ⟨by omega, rfl⟩, by omega⟩
    · refine say_f (fun e => hd ((u32_is1 _).1 e)) ?_
      refine cw_false rfl ?_
      refine cw_go rfl ?_
      conv => whnf
      refine And.intro (by decide) ?_
      refine say_w (shr_1 d) ?_
      conv => whnf
      refine cw_go rfl ?_
      conv => whnf
      refine say_i (by omega) ?_
      exact ⟨i + 1, ⟨by rw [hn, c1_no hd]; rfl, rfl, trivial⟩, ⟨by omega, rfl⟩, by omega⟩
  · refine say_f (by omega) ?_
    refine cw_false rfl (cw_exit ?_)
    have : i = 8 := by omega
    subst this
    refine cw_seq (cw_go rfl ?_)
    conv => whnf
    exact cw_ret ⟨rfl, rfl⟩
theorem onAll_take {l : List UInt8} {i : Nat} (c : UInt32) (h : i < l.length) : Crc.onAll c (l.take (i + 1)) = Crc.on (Crc.onAll c (l.take i)) (l.getD i 0) := by
  unfold Crc.onAll
  rw [List.take_add_one, List.getElem?_eq_getElem h, List.getD_eq_getElem?_getD, List.getElem?_eq_getElem h, List.foldl_append]
  rfl
theorem more_fn {h : Heap} {v : Value} {l : List UInt8} (r : RB h v l) (hl : l.length ≤ 1000000000) :
    Fx Tryz.prog 115 #[.int .u32 0, v] h fun u h' => u = u32v (Crc.sum l) ∧ h' = h := by
  refine fn_of 22 Tryz.func115 rfl (by kernel_rfl) rfl (by simp) ?_
  obtain ⟨va, vc, hve, _⟩ := Vm.Src.form r
  subst hve
  refine cw_seq (cw_go rfl ?_)
  conv => whnf
  refine cw_seq (cw_go rfl ?_)
  conv => whnf
  refine say_w (y := ((~~~ (0 : UInt32)).toNat : Int)) (by kernel_rfl) ?_
  conv => whnf
  refine cw_seq (cw_seq (cw_go rfl ?_))
  conv => whnf
  refine cw_block ?_
  refine cw_loop (S := Nat) (fun i => [(0, u32v (Crc.onAll (~~~ 0) (l.take i))), (1, .slice va l.length vc), (5, .int .i64 (i : Int))]) (fun i h' => i ≤ l.length ∧ h' = h) (fun i => l.length - i) 0 ⟨rfl, rfl, rfl, trivial⟩ ⟨by omega, rfl⟩ ?_
  rintro i _ ⟨hi, rfl⟩
  refine cw_seq (cw_seq (cw_go rfl ?_))
  conv => whnf
  by_cases h8 : i < l.length
  · refine say_t (by omega) ?_
    refine cw_true rfl (cw_skip ?_)
    refine cw_seq (cw_block ?_)
    obtain ⟨b, o, c, he, hr⟩ := r.get i h8
    injection he with he1 _ he2
    subst he1 he2
    refine cw_go rfl ?_
    conv => whnf
    refine And.intro ⟨by omega, by omega⟩ ?_
    conv => whnf
    refine ⟨_, by rwa [show o + i = o + ((i : Int)).toNat by omega] at hr, ?_⟩
    conv => whnf
    refine ⟨_, rfl, _, byteOn_fn (Crc.onAll (~~~ 0) (l.take i)) (l.getD i 0) _, ?_⟩
    rintro _ _ ⟨rfl, rfl⟩
    refine cw_go rfl ?_
    conv => whnf
    refine say_i (by omega) ?_
    exact ⟨i + 1, ⟨by rw [onAll_take _ h8]; rfl, rfl, rfl, trivial⟩, ⟨by omega, rfl⟩, by omega⟩
  · refine say_f (by omega) ?_
    refine cw_false rfl (cw_exit ?_)
    have : i = l.length := by omega
    subst this
    rw [List.take_length]
    refine cw_seq (cw_go rfl ?_)
    conv => whnf
    refine say_w (y := ((~~~ (Crc.onAll (~~~ 0) l)).toNat : Int)) (not32 _) ?_
    exact cw_ret ⟨rfl, rfl⟩
def tabC (i : Nat) : List Value := (List.range 256).map fun j => u32v (if j < i then Crc.cN 8 (UInt32.ofNat j) else 0)
theorem tabC_length (i : Nat) : (tabC i).length = 256 := by simp [tabC]
theorem tabC_set (i : Nat) (h : i < 256) : (tabC i).set i (u32v (Crc.cN 8 (UInt32.ofNat i))) = tabC (i + 1) := by
  apply List.ext_getElem?
  intro j
  unfold tabC
  simp only [List.getElem?_set, List.getElem?_map, List.length_map, List.length_range]
  by_cases hj : j < 256
  · rw [List.getElem?_range hj]
    by_cases e : i = j
    · subst e
      simp [h]
    · simp only [e, if_false, Option.map_some]
      congr 2
      by_cases h2 : j < i
      · rw [if_pos h2, if_pos (by omega)]
      · rw [if_neg h2, if_neg (by omega)]
  · have : (List.range 256)[j]? = none := by simp; omega
    rw [this]
    by_cases e : i = j
    · omega
    · simp [e]
theorem tabC_at (j : Nat) (h : j < 256) : (tabC 256)[j]? = some (u32v (Crc.cN 8 (UInt32.ofNat j))) := by
  unfold tabC
  rw [List.getElem?_map, List.getElem?_range h]
  simp [h]
theorem table_fn (h : Heap) : Fx Tryz.prog 206 #[] h fun u h' => u = .agg (tabC 256).toArray ∧ ExtH h h' := by
  refine fn_of 13 Tryz.func206 rfl (by kernel_rfl) rfl (by simp) ?_
  refine cw_seq (cw_go rfl ?_)
  intro h1 n1
  conv => whnf
  have z1 := n1.size
  have y1 : Blk h1 h.size (tabC 0) 312 := by
    have := n1.blk
    rwa [show (tabC 0) = (List.replicate 256 (Value.int .u32 0)) by kernel_rfl]
  refine cw_seq (cw_go rfl ?_)
  intro h2 n2
  conv => whnf
  have z2 := n2.size
  have y2 : Blk h2 h1.size (tabC 0) 312 := by
    have := n2.blk
    rwa [show (tabC 0) = (List.replicate 256 (Value.int .u32 0)) by kernel_rfl]
  have y12 := n2.ext.blk y1
  have x2 := n1.ext.trans n2.ext
  refine cw_seq (cw_seq (cw_go rfl ?_))
  conv => whnf
  refine cw_block ?_
  refine cw_loop (S := Nat) (fun i => [(0, .pointer (some ⟨h.size, 0, none⟩)), (1, .pointer (some ⟨h1.size, 0, none⟩)), (3, .int .i64 (i : Int))])
    (fun i h' => i ≤ 256 ∧ Blk h' h1.size (tabC i) 312 ∧ Blk h' h.size (tabC 0) 312 ∧ ExtH h h') (fun i => 256 - i) 0 ⟨rfl, rfl, rfl, trivial⟩ ⟨by decide, y2, y12, x2⟩ ?_
  clear y2 y12 x2 y1
  rintro i h3 ⟨hi, yb, ya, x3⟩
  refine cw_seq (cw_go rfl ?_)
  conv => whnf
  by_cases h8 : i < 256
  · refine say_t (by omega) ?_
    refine cw_seq (cw_true rfl (cw_skip ?_))
    refine cw_seq (cw_block ?_)
    refine cw_seq (cw_go rfl ?_)
    conv => whnf
    refine cw_go rfl ?_
    conv => whnf
    refine say_w (y := ((UInt32.ofNat i).toNat : Int)) (by rw [IntKind.wrap_u32, ofNat32 i (by omega)]; omega) ?_
    conv => whnf
    refine ⟨_, rfl, _, step_fn (UInt32.ofNat i) h3, ?_⟩
    rintro _ _ ⟨rfl, rfl⟩
    conv => whnf
    refine And.intro ⟨by omega, by omega⟩ ?_
    conv => whnf
    refine ⟨_, _, yb, by rw [tabC_length]; omega, ?_⟩
    intro h4 w4
    have z4 := w4.size
    have yb4 : Blk h4 h1.size (tabC (i + 1)) 312 := by
      have := w4.new
      rwa [show 0 + ((i : Int)).toNat = i by omega, tabC_set i h8] at this
    have ya4 := w4.blk ya (by omega)
    refine cw_go rfl ?_
    conv => whnf
    refine say_i (by omega) ?_
    exact ⟨i + 1, ⟨rfl, rfl, rfl, trivial⟩, ⟨by omega, yb4, ya4, ⟨by have := x3.size; omega, fun b hb => by rw [w4.block b (by omega), x3.block b hb]⟩⟩, by omega⟩
  · refine say_f (by omega) ?_
    refine cw_seq (cw_false rfl (cw_exit ?_))
    have : i = 256 := by omega
    subst this
    refine cw_seq (cw_go rfl ?_)
    conv => whnf
    refine ⟨_, by rw [tabC_length]; rfl, yb.all, ?_⟩
    conv => whnf
    refine ⟨_, _, ya, ⟨by show 0 + (tabC 256).length ≤ _; rw [tabC_length, tabC_length]; decide, by show (tabC 256).length = _; rw [tabC_length]; rfl, ?_⟩, ?_⟩
    · intro x hx
      obtain ⟨j, _, rfl⟩ := List.mem_map.1 hx
      rfl
    intro h4 w4
    replace w4 := w4.cast (l' := tabC 256) (by simp [splice, tabC_length])
    have z4 := w4.size
    exact cw_ret ⟨_, by rw [tabC_length]; rfl, w4.new.all, rfl, ⟨by have := x3.size; omega, fun b hb => by rw [w4.block b (by omega), x3.block b hb]⟩⟩
end Go.Proofs.YthigegabdbkhiaaGreatDoor
namespace Go.Proofs.YthigegabdbkhiaaGreatDoor
open Go Vm
set_option maxRecDepth 100000
set_option linter.unusedVariables false
set_option linter.unusedSimpArgs false
theorem xor8 (x y : UInt8) : bits .xor .u8 (x.toNat : Int) (y.toNat : Int) = ((x ^^^ y).toNat : Int) := by
  rw [u8_xor_nat _ _ (u8_lt x) (u8_lt y), UInt8.toNat_xor]
theorem u8_of32 (c : UInt32) : IntKind.u8.wrap (c.toNat : Int) = (c.toUInt8.toNat : Int) := by rw [IntKind.wrap_u8]; simp
theorem over_fn {h : Heap} {g : Nat} {pv : Value} {l : List UInt8} (y : Blk h g [pv] 33) (r : RB h pv l) (hl : l.length ≤ 1000000000) :
    Fx Tryz.prog 147 #[.int .u32 4294967295, .slice (some ⟨g, 0, none⟩) 1 1] h fun u h' => u = u32v (Crc.onAll (~~~ 0) l) ∧ ExtH h h' := by
  refine fn_of 35 Tryz.func147 rfl (by kernel_rfl) rfl (by simp) ?_
  obtain ⟨va, vc, hve, _⟩ := Vm.Src.form r
  subst hve
  have hs := r.get
  refine cw_seq (cw_go rfl ?_)
  conv => whnf
  refine cw_seq (cw_go rfl ?_)
  conv => whnf
  refine ⟨_, rfl, _, table_fn h, ?_⟩
  rintro _ h1 ⟨rfl, x1⟩
  intro h2 n2
  conv => whnf
  have yt : Blk h2 h1.size (tabC 0) 312 := by
    have := n2.blk
    rwa [show (tabC 0) = (List.replicate 256 (Value.int .u32 0)) by kernel_rfl]
  refine ⟨_, _, yt, ⟨by show 0 + (tabC 256).length ≤ _; rw [tabC_length, tabC_length]; decide, by show (tabC 256).length = _; rw [tabC_length]; rfl, ?_⟩, ?_⟩
  · intro x hx
    obtain ⟨j, _, rfl⟩ := List.mem_map.1 hx
    rfl
  intro h3 w3
  replace w3 := w3.cast (l' := tabC 256) (by simp [splice, tabC_length])
  have yt3 : Blk h3 h1.size (tabC 256) 312 := w3.new
  have z1 := x1.size
  have z2 := n2.size
  have z3 := w3.size
  have x3 : ExtH h h3 := ⟨by omega, fun b hb => by rw [w3.block b (by omega), n2.block b (by omega), x1.block b hb]⟩
  have y3 := x3.blk y
  have r3 := r.more x3
  generalize h1.size = tb at yt3
  clear yt n2 w3 x1
  refine cw_seq (cw_seq (cw_go rfl ?_))
  conv => whnf
  refine cw_block ?_
  refine cw_loop (S := Nat) (fun i => [(0, u32v (Crc.onAll (~~~ 0) (if i = 0 then [] else l))), (5, .pointer (some ⟨tb, 0, none⟩)), (11, .slice (some ⟨g, 0, none⟩) 1 1), (12, .int .i64 1), (13, .int .i64 (i : Int))])
    (fun i h' => i ≤ 1 ∧ h3 = h') (fun i => 1 - i) 0 ⟨rfl, rfl, rfl, rfl, rfl, trivial⟩ ⟨by decide, rfl⟩ ?_
  rintro i _ ⟨hi, rfl⟩
  refine cw_seq (cw_go rfl ?_)
  conv => whnf
  by_cases h0 : i = 0
  · subst h0
    refine say_t (by decide) ?_
    refine cw_seq (cw_true rfl (cw_skip ?_))
    refine cw_seq (cw_block ?_)
    refine cw_seq (cw_go rfl ?_)
    conv => whnf
    refine And.intro ⟨by decide, by decide⟩ ?_
    conv => whnf
    refine ⟨_, y3.rd (o := 0) rfl, ?_⟩
    refine cw_seq (cw_go rfl ?_)
    conv => whnf
    refine cw_block ?_
    refine cw_loop (S := Nat) (fun j => [(0, u32v (Crc.onAll (~~~ 0) (l.take j))), (5, .pointer (some ⟨tb, 0, none⟩)), (11, .slice (some ⟨g, 0, none⟩) 1 1), (12, .int .i64 1), (13, .int .i64 0), (17, .slice va l.length vc), (18, .int .i64 (l.length : Int)), (19, .int .i64 (j : Int))])
      (fun j h' => j ≤ l.length ∧ h3 = h') (fun j => l.length - j) 0 ⟨rfl, rfl, rfl, rfl, rfl, rfl, rfl, rfl, trivial⟩ ⟨by omega, rfl⟩ ?_
    rintro j _ ⟨hj, rfl⟩
    refine cw_seq (cw_go rfl ?_)
    conv => whnf
    by_cases hjl : j < l.length
    · refine say_t (by omega) ?_
      refine cw_seq (cw_true rfl (cw_skip ?_))
      refine cw_seq (cw_block ?_)
      obtain ⟨b, o, c, he, hr⟩ := r3.get j hjl
      injection he with he1 _ he2
      subst he1 he2
      refine cw_seq (cw_go rfl ?_)
      conv => whnf
      refine And.intro ⟨by omega, by omega⟩ ?_
      conv => whnf
      refine ⟨_, by rwa [show o + j = o + ((j : Int)).toNat by omega] at hr, ?_⟩
      have hon := onAll_take (~~~ 0) hjl
      rw [← Crc.tab_on] at hon
      generalize Crc.onAll (~~~ 0) (l.take j) = c at hon ⊢
      generalize l.getD j 0 = x at hon ⊢
      refine cw_go rfl ?_
      conv => whnf
      refine And.intro (by decide) ?_
      refine say_w (y := ((c >>> 8).toNat : Int)) (shr32 c 8 (by decide)) ?_
      conv => whnf
      refine say_w (u8_of32 c) ?_
      conv => whnf
      refine say_w (xor8 _ x) ?_
      conv => whnf
      have hb := u8_lt (c.toUInt8 ^^^ x)
      refine And.intro ⟨by omega, by omega⟩ ?_
      conv => whnf
      refine ⟨_, yt3.rd (by rw [show 0 + (((c.toUInt8 ^^^ x).toNat : Int)).toNat = (c.toUInt8 ^^^ x).toNat by omega]; exact tabC_at _ hb), ?_⟩
      conv => whnf
      refine say_w (xor32 _ _) ?_
      conv => whnf
      refine cw_go rfl ?_
      conv => whnf
      refine say_i (by omega) ?_
      have hx : UInt32.ofNat (c.toUInt8 ^^^ x).toNat = (c.toUInt8 ^^^ x).toUInt32 := by
        apply UInt32.toNat.inj
        rw [ofNat32 _ (by omega)]
        simp
      exact ⟨j + 1, ⟨by rw [hon]; show some (u32v _) = some (u32v _); congr 2; unfold Crc.tab; rw [hx], rfl, rfl, rfl, rfl, rfl, rfl, rfl, trivial⟩, ⟨by omega, rfl⟩, by omega⟩
    · refine say_f (by omega) ?_
      refine cw_seq (cw_false rfl (cw_exit ?_))
      have : j = l.length := by omega
      subst this
      rw [List.take_length]
      refine cw_go rfl ?_
      conv => whnf
      refine say_i (by decide) ?_
      exact ⟨1, ⟨rfl, rfl, rfl, rfl, rfl, trivial⟩, ⟨by decide, rfl⟩, by decide⟩
  · have h1 : i = 1 := by omega
    subst h1
    refine say_f (by decide) ?_
    refine cw_seq (cw_false rfl (cw_exit ?_))
    refine cw_seq (cw_go rfl ?_)
    conv => whnf
    exact cw_ret ⟨rfl, x3⟩
theorem csum_fn {h : Heap} {g : Nat} {pv : Value} {l : List UInt8} (y : Blk h g [pv] 33) (r : RB h pv l) (hl : l.length ≤ 1000000000) :
    Fx Tryz.prog 104 #[.slice (some ⟨g, 0, none⟩) 1 1] h fun u h' => u = u32v (Crc.sum l) ∧ ExtH h h' := by
  refine fn_of 6 Tryz.func104 rfl (by kernel_rfl) rfl (by simp) ?_
  refine cw_seq (cw_go rfl ?_)
  conv => whnf
  refine cw_seq (cw_go rfl ?_)
  conv => whnf
  refine ⟨_, rfl, _, over_fn y r hl, ?_⟩
  rintro _ h1 ⟨rfl, x1⟩
  conv => whnf
  refine say_w (y := ((~~~ (Crc.onAll (~~~ 0) l)).toNat : Int)) (not32 _) ?_
  exact cw_ret ⟨rfl, x1⟩
theorem b4_at (c : UInt32) (n : Nat) (hn : n < 32) : IntKind.u8.wrap (((c >>> UInt32.ofNat n).toNat : Int)) = ((c >>> UInt32.ofNat n).toUInt8.toNat : Int) := u8_of32 _
theorem bytes_fn (c : UInt32) (h : Heap) : Fx Tryz.prog 103 #[u32v c] h fun u h' => u = .agg ((Crc.bytes4 c).map u8v).toArray ∧ ExtH h h' := by
  refine fn_of 15 Tryz.func103 rfl (by kernel_rfl) rfl (by simp) ?_
  refine cw_seq (cw_go rfl ?_)
  intro h1 n1
  conv => whnf
  have y1 : Blk h1 h.size ((List.replicate 4 (0 : UInt8)).map u8v) 237 := n1.blk
  refine cw_seq (cw_go rfl ?_)
  conv => whnf
  refine say_w (u8_of32 c) ?_
  conv => whnf
  refine And.intro (by decide) ?_
  refine say_w (y := ((c >>> 8).toNat : Int)) (shr32 c 8 (by decide)) ?_
  conv => whnf
  refine say_w (u8_of32 _) ?_
  conv => whnf
  refine And.intro (by decide) ?_
  refine say_w (y := ((c >>> 16).toNat : Int)) (shr32 c 16 (by decide)) ?_
  conv => whnf
  refine say_w (u8_of32 _) ?_
  conv => whnf
  refine And.intro (by decide) ?_
  refine say_w (y := ((c >>> 24).toNat : Int)) (shr32 c 24 (by decide)) ?_
  conv => whnf
  refine say_w (u8_of32 _) ?_
  conv => whnf
  refine ⟨_, rfl, ((Crc.bytes4 c).map u8v).toArray, fun w => by kernel_rfl, ?_⟩
  conv => whnf
  conv => whnf
  refine ⟨_, _, y1, ⟨by show 4 ≤ 4; decide, rfl, fun x hx => one8 _ x hx⟩, ?_⟩
  intro h2 w2
  replace w2 := w2.cast (l' := (Crc.bytes4 c).map u8v) rfl
  have z1 := n1.size
  have z2 := w2.size
  exact cw_ret ⟨_, rfl, w2.new.all, rfl, ⟨by omega, fun b hb => by rw [w2.block b (by omega), n1.block b hb]⟩⟩
theorem rbytes_fn (c : UInt32) (h : Heap) : Fx Tryz.prog 114 #[u32v c] h fun u h' => u = .agg ((Crc.bytes4 c).map u8v).toArray ∧ ExtH h h' := by
  refine fn_of 15 Tryz.func114 rfl (by kernel_rfl) rfl (by simp) ?_
  refine cw_seq (cw_go rfl ?_)
  intro h1 n1
  conv => whnf
  have y1 : Blk h1 h.size ((List.replicate 4 (0 : UInt8)).map u8v) 237 := n1.blk
  refine cw_seq (cw_go rfl ?_)
  conv => whnf
  refine say_w (u8_of32 c) ?_
  conv => whnf
  refine And.intro (by decide) ?_
  refine say_w (y := ((c >>> 8).toNat : Int)) (shr32 c 8 (by decide)) ?_
  conv => whnf
  refine say_w (u8_of32 _) ?_
  conv => whnf
  refine And.intro (by decide) ?_
  refine say_w (y := ((c >>> 16).toNat : Int)) (shr32 c 16 (by decide)) ?_
  conv => whnf
  refine say_w (u8_of32 _) ?_
  conv => whnf
  refine And.intro (by decide) ?_
  refine say_w (y := ((c >>> 24).toNat : Int)) (shr32 c 24 (by decide)) ?_
  conv => whnf
  refine say_w (u8_of32 _) ?_
  conv => whnf
  refine ⟨_, rfl, ((Crc.bytes4 c).map u8v).toArray, fun w => by kernel_rfl, ?_⟩
  conv => whnf
  conv => whnf
  refine ⟨_, _, y1, ⟨by show 4 ≤ 4; decide, rfl, fun x hx => one8 _ x hx⟩, ?_⟩
  intro h2 w2
  replace w2 := w2.cast (l' := (Crc.bytes4 c).map u8v) rfl
  have z1 := n1.size
  have z2 := w2.size
  exact cw_ret ⟨_, rfl, w2.new.all, rfl, ⟨by omega, fun b hb => by rw [w2.block b (by omega), n1.block b hb]⟩⟩
theorem rB4 {h : Heap} {b : Nat} {l : List UInt8} {t : TypeId} (y : Blk h b (l.map u8v) t) (hl : l.length = 4) : RB h (.slice (some ⟨b, 0, none⟩) 4 4) l :=
  ⟨by simp, .inr ⟨⟨b, 0, none⟩, 4, by rw [hl], by omega, by decide, rdA_plain.2 y.all⟩⟩
theorem seal_fn {h : Heap} {v : Value} {l : List UInt8} (r : RB h v l) (hl : l.length ≤ 1000000000) :
    Fx Tryz.prog 70 #[v] h fun u h' => OB h' u (Crc.sealB l) ∧ ExtH h h' ∧ ∀ b, ob u b → h.size ≤ b := by
  refine fn_of 21 Tryz.func70 rfl (by kernel_rfl) rfl (by simp) ?_
  obtain ⟨va, vc, hve, _⟩ := Vm.Src.form r
  subst hve
  refine cw_seq (cw_go rfl ?_)
  conv => whnf
  refine cw_seq (cw_go rfl ?_)
  repeat ((conv => whnf); first | refine ⟨_, Blk.rd ‹Blk _ _ _ _› rfl, ?_⟩ | refine ⟨_, rd_up ‹ExtH _ _› (Blk.rd ‹Blk _ _ _ _› rfl), ?_⟩ | refine And.intro ⟨by omega, by omega⟩ ?_ | refine say_i (by omega) ?_ | refine say_u8 (by omega) ?_ | refine say_u64 (by omega) ?_ | refine say_len ?_ | refine say_at ⟨by omega, by omega⟩ ?_ | refine say_to (by omega) (by omega) ?_ | refine say_from (by omega) (by omega) ?_ | refine say_t (by omega) ?_ | refine say_f (by omega) ?_)
  try (conv => whnf)
  refine ⟨⟨by omega, by omega, ?_, by omega⟩, ?_⟩
  · show ((1 : Nat) : Int) * _ ≤ _; omega
  intro h1 n1
  replace n1 : Newed h h1 (.cells (madeCells (Value.int .u8 0).cells (l.length + 4)) 5) := by
    have e : ((l.length : Int) + 4).toNat * 1 = l.length + 4 := by omega
    have := n1
    rw [← e]
    exact this
  have o1 : OB h1 (.slice (some ⟨h.size, 0, none⟩) (List.replicate l.length (0 : UInt8)).length (l.length + 4)) (List.replicate l.length 0) :=
    OB.of_new (tl := (List.replicate 4 (0 : UInt8)).map u8v) n1 (by rw [zeros8, ← List.map_append, List.replicate_append_replicate]) (by simp) (by unfold maxLen; omega)
  rw [List.length_replicate] at o1
  conv => whnf
  rw [show ((l.length : Int)).toNat = l.length by omega, show ((l.length : Int) + 4).toNat = l.length + 4 by omega]
  refine cw_seq (cw_go rfl ?_)
  conv => whnf
  refine ⟨_, rfl, _, copy_bytes (ty := 3) o1 (r.more n1.ext) (by simp), ?_⟩
  rintro _ h2 ⟨rfl, o2, c2⟩
  have e : l ++ (List.replicate l.length (0 : UInt8)).drop l.length = l := by simp
  rw [e] at o2
  have z1 := n1.size
  have fv : ∀ b, ob (.slice (some ⟨h.size, 0, none⟩) l.length (l.length + 4)) b → h.size ≤ b := fun b hb => by rw [ob_slice] at hb; omega
  have x2 : ExtH h h2 := ext_of_chg n1.ext c2 fv
  have z2 := x2.size
  refine cw_seq (cw_go rfl ?_)
  conv => whnf
  refine ⟨_, rfl, #[.slice va l.length vc], 33, fun w => by kernel_rfl, ?_⟩
  conv => whnf
  intro h3 n3
  have z3 := n3.size
  conv => whnf
  refine ⟨_, rfl, _, csum_fn n3.blk (r.more (x2.trans n3.ext)) hl, ?_⟩
  rintro _ h4 ⟨rfl, x4⟩
  conv => whnf
  refine ⟨_, rfl, _, bytes_fn (Crc.sum l) h4, ?_⟩
  rintro _ h5 ⟨rfl, x5⟩
  conv => whnf
  intro h6 n6
  have y6 : Blk h6 h5.size ((List.replicate 4 (0 : UInt8)).map u8v) 237 := n6.blk
  conv => whnf
  refine ⟨_, _, y6, ⟨by show 4 ≤ 4; decide, rfl, fun x hx => one8 _ x hx⟩, ?_⟩
  intro h7 w7
  replace w7 := w7.cast (l' := (Crc.bytes4 (Crc.sum l)).map u8v) rfl
  have z4 := x4.size
  have z5 := x5.size
  have z6 := n6.size
  have z7 := w7.size
  have x27 : ExtH h2 h7 := ⟨by omega, fun b hb => by rw [w7.block b (by omega), n6.block b (by omega), x5.block b (by omega), x4.block b (by omega), n3.block b hb]⟩
  have o7 := OwnS.more o2 x27
  refine cw_seq (cw_go rfl ?_)
  conv => whnf
  refine ⟨⟨by decide, by decide, by decide⟩, ⟨h5.size, 0, none⟩, rfl, ?_⟩
  conv => whnf
  refine ⟨_, rfl, _, append_bytes (ty := 33) o7 (rB4 w7.new rfl) (by show l.length + 4 ≤ _; omega), ?_⟩
  rintro u h8 ⟨o8, c8, f8⟩
  have z27 := x27.size
  exact cw_ret ⟨o8, ext_of_chg (x2.trans x27) c8 fv, fun b hb => (f8 b hb).elim (fv b) (fun e => by omega)⟩
theorem rseal_fn {h : Heap} {v : Value} {l : List UInt8} (r : RB h v l) (hl : l.length ≤ 1000000000) :
    Fx Tryz.prog 86 #[v] h fun u h' => OB h' u (Crc.sealB l) ∧ ExtH h h' ∧ ∀ b, ob u b → h.size ≤ b := by
  refine fn_of 21 Tryz.func86 rfl (by kernel_rfl) rfl (by simp) ?_
  obtain ⟨va, vc, hve, _⟩ := Vm.Src.form r
  subst hve
  refine cw_seq (cw_go rfl ?_)
  conv => whnf
  refine cw_seq (cw_go rfl ?_)
  conv => whnf
  refine ⟨_, rfl, _, append_bytes (ty := 33) (OB.nil h) r (by simp; omega), ?_⟩
  rintro u h1 ⟨o1, c1, f1⟩
  rw [List.nil_append] at o1
  have x1 : ExtH h h1 := c1.ext (fun b hb => (ob_nil hb).elim)
  have fv : ∀ b, ob u b → h.size ≤ b := fun b hb => (f1 b hb).elim (fun e => (ob_nil e).elim) (fun e => e)
  have z1 := x1.size
  conv => whnf
  refine cw_seq (cw_go rfl ?_)
  conv => whnf
  refine ⟨_, rfl, _, more_fn (r.more x1) hl, ?_⟩
  rintro _ h2 ⟨rfl, e2⟩
  replace e2 := e2.symm
  subst e2
  conv => whnf
  refine ⟨_, rfl, _, rbytes_fn (Crc.sum l) h1, ?_⟩
  rintro _ h5 ⟨rfl, x5⟩
  conv => whnf
  intro h6 n6
  have y6 : Blk h6 h5.size ((List.replicate 4 (0 : UInt8)).map u8v) 237 := n6.blk
  conv => whnf
  refine ⟨_, _, y6, ⟨by show 4 ≤ 4; decide, rfl, fun x hx => one8 _ x hx⟩, ?_⟩
  intro h7 w7
  replace w7 := w7.cast (l' := (Crc.bytes4 (Crc.sum l)).map u8v) rfl
  have z5 := x5.size
  have z6 := n6.size
  have z7 := w7.size
  have y7 : Blk h7 h5.size ((Crc.bytes4 (Crc.sum l)).map u8v) 237 := w7.new
  have x17 : ExtH h1 h7 := ⟨by omega, fun b hb => by rw [w7.block b (by omega), n6.block b (by omega), x5.block b hb]⟩
  have o7 := OwnS.more o1 x17
  obtain ⟨ua, uc, hue, _⟩ := Vm.Src.form (OB.r o7)
  subst hue
  refine cw_seq (cw_go rfl ?_)
  conv => whnf
  refine And.intro ⟨by decide, by decide⟩ ?_
  conv => whnf
  refine ⟨_, y7.rd (o := 0) rfl, ?_⟩
  conv => whnf
  refine And.intro ⟨by decide, by decide⟩ ?_
  conv => whnf
  refine ⟨_, y7.rd (o := 1) rfl, ?_⟩
  conv => whnf
  refine And.intro ⟨by decide, by decide⟩ ?_
  conv => whnf
  refine ⟨_, y7.rd (o := 2) rfl, ?_⟩
  conv => whnf
  refine And.intro ⟨by decide, by decide⟩ ?_
  conv => whnf
  refine ⟨_, y7.rd (o := 3) rfl, ?_⟩
  conv => whnf
  refine ⟨_, rfl, ((Crc.bytes4 (Crc.sum l)).map u8v).toArray, 5, fun w => by kernel_rfl, ?_⟩
  conv => whnf
  intro h8 n8
  conv => whnf
  have r8 : RB h8 (.slice (some ⟨h7.size, 0, none⟩) 4 4) (Crc.bytes4 (Crc.sum l)) := RB.of_newed n8 rfl rfl (by show 4 ≤ maxLen; decide)
  refine ⟨_, rfl, _, append_bytes (ty := 33) (OwnS.more o7 n8.ext) r8 (by show l.length + 4 ≤ _; omega), ?_⟩
  rintro u h9 ⟨o9, c9, f9⟩
  have z17 := x17.size
  have z8 := n8.size
  exact cw_ret ⟨o9, ext_of_chg (x1.trans (x17.trans n8.ext)) c9 fv, fun b hb => (f9 b hb).elim (fv b) (fun e => by omega)⟩
end Go.Proofs.YthigegabdbkhiaaGreatDoor
