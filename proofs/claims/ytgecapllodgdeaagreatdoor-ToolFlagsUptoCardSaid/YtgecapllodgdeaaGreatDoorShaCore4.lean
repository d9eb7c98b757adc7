/-
  The contracts of package sha's Clone and Sum.
-/
import Derived.Test.YtgecapllodgdeaaGreatDoorShaCore3
namespace Go.Proofs.YtgecapllodgdeaaGreatDoor
open Go Vm
set_option maxRecDepth 100000
theorem hclone_fn {h : Heap} {p : Nat} {v : Value} {s : Sha.S8} {l : List UInt8} {n : Nat} (H : HashAt h p v s l n) (hl : l.length ≤ 140737488355328) :
    Fx Tryz.prog 99 #[.pointer (some ⟨p, 0, none⟩)] h fun u h' => ∃ q v', u = .pointer (some ⟨q, 0, none⟩) ∧ h.size ≤ q ∧ HashAt h' q v' s l n ∧ ExtH h h' ∧ ∀ b, ob v' b → h.size ≤ b := by
  refine fn_of 22 Tryz.func99 rfl (by kernel_rfl) rfl (by simp) ?_
  refine cw_seq (cw_region rfl ?_)
  refine cw_seq (cw_seq (cw_region rfl ?_))
  conv => whnf
  refine ⟨.bool false, fun w => by kernel_rfl, ?_⟩
  refine cw_false rfl (cw_skip ?_)
  refine cw_seq (cw_region rfl ?_)
  conv => whnf
  refine ⟨_, rfl, _, ready_fn (H.blk.rd rfl), ?_⟩
  rintro _ h1 ⟨rfl, rfl⟩
  refine cw_seq ?_
  refine cw_drawn (by kernel_rfl) 14 (fun i => i == 8) [0, 1, 2, 3, 4, 5, 6, 7, 9, 10, 11, 12, 8, 13] (by kernel_rfl) rfl ?_
  conv => whnf
  refine ⟨_, by rfl, H.words, ?_⟩
  conv => whnf
  refine ⟨_, H.buf, ?_⟩
  conv => whnf
  refine ⟨_, (H.blk.rd (o := 10) rfl), ?_⟩
  conv => whnf
  intro h2 x2
  refine ⟨_, rfl, _, clone_fn (Src.more H.own.r x2) hl, ?_⟩
  rintro v' h3 ⟨o3, x3, f3⟩
  obtain ⟨a3, k3, e3⟩ := o3.r.len
  subst e3
  refine ⟨x3.toU _, ?_⟩
  intro h4 x4
  conv => whnf
  refine ⟨_, rfl, (hashC s (.slice a3 l.length k3) n).toArray, fun w => by kernel_rfl, ?_⟩
  conv => whnf
  intro h5 x5
  conv => whnf
  intro h6 n6
  refine cw_ret ?_
  have z2 := x2.size; have z3 := x3.size; have z4 := x4.size; have z5 := x5.size
  exact ⟨h5.size, _, rfl, by omega, ⟨n6.blk, OwnS.more o3 ((x4.trans x5).trans n6.ext)⟩, ((x2.trans x3).trans (x4.trans x5)).trans n6.ext, fun b hb => by have := f3 b hb; omega⟩
theorem partk_int {P : Program} {T : TypeId} {cs : Array Value} {off : Nat} {k : Value → Prop} {v : Value} {kd : IntKind} (hT : P.underlying T = some (.int kd)) (hi : (P.info? T).isSome = true) (hv : cs[off]? = some v) (H : k v) : partk P T cs off k := by
  obtain ⟨i, hi⟩ := Option.isSome_iff_exists.1 hi
  unfold partk
  simp only [hT, hi, hv]
  exact H
def dcells (s : Sha.S8) (i : Nat) : List Value := ((Sha.bytes s).map u8v).take (4 * i) ++ List.replicate (32 - 4 * i) (u8v 0)
theorem dcells_set (s : Sha.S8) (i : Nat) (hi : i < 8) :
    ((((dcells s i).set (4 * i) (u8v (UInt8.ofNat ((s.list.getD i 0).toNat / 16777216)))).set (4 * i + 1) (u8v (UInt8.ofNat ((s.list.getD i 0).toNat / 65536)))).set (4 * i + 2) (u8v (UInt8.ofNat ((s.list.getD i 0).toNat / 256)))).set (4 * i + 3) (u8v (UInt8.ofNat (s.list.getD i 0).toNat)) = dcells s (i + 1) := by
  have : i = 0 ∨ i = 1 ∨ i = 2 ∨ i = 3 ∨ i = 4 ∨ i = 5 ∨ i = 6 ∨ i = 7 := by omega
  rcases this with rfl | rfl | rfl | rfl | rfl | rfl | rfl | rfl <;> rfl
theorem dcells_length (s : Sha.S8) (i : Nat) (hi : i ≤ 8) : (dcells s i).length = 32 := by simp [dcells, Sha.bytes_length]; omega
theorem shr_byte (x : UInt32) (k : Int) (m d : Nat) (hk : min k.toNat 32 = m) (hd : 2 ^ m = d) : Value.int .u8 (IntKind.u8.wrap ((x.toNat : Int) / 2 ^ min k.toNat 32)) = u8v (UInt8.ofNat (x.toNat / d)) := by
  rw [hk, show (x.toNat : Int) / 2 ^ m = ((x.toNat / d : Nat) : Int) by rw [← hd]; simp, wrap8_nat]
  rfl
theorem sum_fn {h : Heap} {p : Nat} {v : Value} {s : Sha.S8} {l : List UInt8} {n : Nat} (H : HashAt h p v s l n) (hl : l.length ≤ 100000000000000) (hn : n ≤ 2305843009213693951) :
    Fx Tryz.prog 68 #[.pointer (some ⟨p, 0, none⟩)] h fun u h' => u = .agg ((Sha.sum s l n).map u8v).toArray ∧ ExtH h h' := by
  refine fn_of 61 Tryz.func68 rfl (by kernel_rfl) rfl (by simp) ?_
  refine cw_seq (cw_region rfl ?_)
  conv => whnf
  intro h1 n1
  refine cw_seq (cw_region rfl ?_)
  conv => whnf
  intro h2 n2
  refine cw_seq (cw_seq (cw_region rfl ?_))
  conv => whnf
  refine ⟨.bool false, fun w => by kernel_rfl, ?_⟩
  refine cw_false rfl (cw_skip ?_)
  have z1 := n1.size; have z2 := n2.size
  have H2 := H.more (n1.ext.trans n2.ext)
  refine cw_seq (cw_region rfl ?_)
  conv => whnf
  refine ⟨_, rfl, _, hclone_fn H2 (by omega), ?_⟩
  rintro _ h3 ⟨q, v3, rfl, hq, H3, x3, f3⟩
  conv => whnf
  refine cw_seq (cw_region rfl ?_)
  conv => whnf
  refine ⟨_, H3.blk.rd (o := 10) rfl, ?_⟩
  conv => whnf
  refine ⟨_, rfl, _, pad_yes n hn h3, ?_⟩
  rintro _ h4 ⟨v4, rfl, o4, x4, f4⟩
  conv => whnf
  refine cw_seq (cw_region rfl ?_)
  conv => whnf
  have hz : Sha.zeros n < 64 := by unfold Sha.zeros; omega
  refine ⟨_, rfl, _, take_fn (H3.more x4) o4.r (by rw [Sha.pad_length]; omega), ?_⟩
  rintro _ h5 ⟨v5, H5, c5, f5⟩
  have y1 : Blk h1 h.size (List.replicate 32 (u8v 0)) 53 := n1.blk
  have y2 : Blk h2 h1.size (dcells (Sha.feed s (l ++ Sha.pad n)) 0) 53 := n2.blk
  have z3 := x3.size; have z4 := x4.size; have z5 := c5.size
  have b1 : Blk h5 h.size (List.replicate 32 (u8v 0)) 53 := by
    refine c5.blk (x4.blk (x3.blk (n2.ext.blk y1))) (fun e => ?_)
    rcases e with e | e
    · omega
    · have := f3 _ e; omega
  have b2 : Blk h5 h1.size (dcells (Sha.feed s (l ++ Sha.pad n)) 0) 53 := by
    refine c5.blk (x4.blk (x3.blk y2)) (fun e => ?_)
    rcases e with e | e
    · omega
    · have := f3 _ e; omega
  have x5 : ExtH h h5 := ⟨by omega, fun b hb => by
    rw [c5.block b (by omega) (fun e => by
      rcases e with e | e
      · omega
      · have := f3 _ e; omega), x4.block b (by omega), x3.block b (by omega), n2.block b (by omega), n1.block b hb]⟩
  generalize hs' : Sha.feed s (l ++ Sha.pad n) = s' at *
  have hsum : Sha.sum s l n = Sha.bytes s' := by rw [← hs']; rfl
  generalize hdb : h1.size = db at *
  clear y1 y2 f5 c5 x4 o4 f4 f3 x3 H3 H2 n2 n1
  refine cw_seq (cw_seq (cw_region rfl ?_))
  conv => whnf
  refine ⟨_, by rfl, H5.words, ?_⟩
  conv => whnf
  refine cw_block ?_
  refine cw_loop (S := Nat) (fun t => [(2, .pointer (some ⟨h.size, 0, none⟩)), (3, .pointer (some ⟨db, 0, none⟩)), (28, .agg (s'.list.map u32v).toArray), (29, .int .i64 (t : Int))])
    (fun t h' => t ≤ 8 ∧ Blk h' h.size (List.replicate 32 (u8v 0)) 53 ∧ Blk h' db (dcells s' t) 53 ∧ ExtH h h') (fun t => 8 - t) 0 ⟨rfl, rfl, rfl, rfl, trivial⟩ ⟨by omega, b1, b2, x5⟩ ?_
  clear b1 b2 x5 H5
  rintro t h6 ⟨ht, b1, b2, x6⟩
  refine cw_seq (cw_region rfl ?_)
  by_cases hlt : t < 8
  · refine cw_seq (cw_yes rfl (by omega) (cw_skip ?_))
    refine cw_seq (cw_block (cw_seq (cw_region rfl ?_)))
    conv => whnf
    refine ⟨⟨by omega, by show (t : Int) < ((8 : Nat) : Int); omega⟩, partk_int (v := u32v (s'.list.getD t 0)) (kd := .u32) rfl rfl ?_ ?_⟩
    · show (s'.list.map u32v).toArray[((t : Int)).toNat * 1]? = _
      rw [List.getElem?_toArray, show ((t : Int)).toNat * 1 = t by omega]
      exact map_get u32v _ t 0 (by show t < 8; exact hlt)
    refine cw_region rfl ?_
    have e0 := i64_eq (4 * (t : Int)) (4 * t) (by omega) (by omega)
    have e1 := i64_eq (IntKind.i64.wrap (4 * (t : Int)) + 1) (4 * t + 1) (by omega) (by omega)
    have e2 := i64_eq (IntKind.i64.wrap (4 * (t : Int)) + 2) (4 * t + 2) (by omega) (by omega)
    have e3 := i64_eq (IntKind.i64.wrap (4 * (t : Int)) + 3) (4 * t + 3) (by omega) (by omega)
    have hlen := dcells_length s' t ht
    conv => whnf
    refine ⟨by decide, ?_⟩
    conv => whnf
    refine ⟨by decide, ?_⟩
    conv => whnf
    refine ⟨by decide, ?_⟩
    conv => whnf
    refine ⟨⟨by omega, by omega⟩, ?_⟩
    conv => whnf
    refine ⟨_, _, b2, by omega, ?_⟩
    intro h7 w7
    replace w7 := w7.cast (l' := (dcells s' t).set (4 * t) (u8v (UInt8.ofNat ((s'.list.getD t 0).toNat / 16777216))))
      (congr (congrArg (List.set (dcells s' t)) (by omega)) (shr_byte _ 24 24 _ (by decide) (by decide)))
    conv => whnf
    refine ⟨⟨by omega, by omega⟩, ?_⟩
    conv => whnf
    refine ⟨_, _, w7.new, by simp only [List.length_set]; omega, ?_⟩
    intro h8 w8
    replace w8 := w8.cast (l' := ((dcells s' t).set (4 * t) (u8v (UInt8.ofNat ((s'.list.getD t 0).toNat / 16777216)))).set (4 * t + 1) (u8v (UInt8.ofNat ((s'.list.getD t 0).toNat / 65536))))
      (congr (congrArg (List.set _) (by omega)) (shr_byte _ 16 16 _ (by decide) (by decide)))
    conv => whnf
    refine ⟨⟨by omega, by omega⟩, ?_⟩
    conv => whnf
    refine ⟨_, _, w8.new, by simp only [List.length_set]; omega, ?_⟩
    intro h9 w9
    replace w9 := w9.cast (l' := (((dcells s' t).set (4 * t) (u8v (UInt8.ofNat ((s'.list.getD t 0).toNat / 16777216)))).set (4 * t + 1) (u8v (UInt8.ofNat ((s'.list.getD t 0).toNat / 65536)))).set (4 * t + 2) (u8v (UInt8.ofNat ((s'.list.getD t 0).toNat / 256))))
      (congr (congrArg (List.set _) (by omega)) (shr_byte _ 8 8 _ (by decide) (by decide)))
    conv => whnf
    refine ⟨⟨by omega, by omega⟩, ?_⟩
    conv => whnf
    refine ⟨_, _, w9.new, by simp only [List.length_set]; omega, ?_⟩
    intro h10 w10
    replace w10 := w10.cast (l' := dcells s' (t + 1)) (by
      rw [← dcells_set s' t hlt]
      refine congr (congrArg (List.set _) (by omega)) (congrArg (Value.int .u8) ?_)
      exact wrap8_nat _)
    refine cw_region rfl ?_
    have hne : h.size ≠ db := by omega
    refine ⟨t + 1, ⟨rfl, rfl, rfl, slot_i64 _ _ (by omega) (by omega), trivial⟩, ⟨by omega, w10.blk (w9.blk (w8.blk (w7.blk b1 hne) hne) hne) hne, w10.new, ?_⟩, by omega⟩
    have s7 := w7.size; have s8 := w8.size; have s9 := w9.size; have s10 := w10.size; have s6 := x6.size
    exact ⟨by omega, fun b hb => by rw [w10.block b (by omega), w9.block b (by omega), w8.block b (by omega), w7.block b (by omega), x6.block b hb]⟩
  · refine cw_seq (cw_no rfl (by omega) (cw_exit ?_))
    have t8 : t = 8 := by omega
    subst t8
    have e32 : dcells s' 8 = (Sha.bytes s').map u8v := rfl
    rw [e32] at b2
    refine cw_seq (cw_region rfl ?_)
    conv => whnf
    refine ⟨_, by rfl, b2.all, ?_⟩
    conv => whnf
    refine ⟨_, _, b1, ⟨(show (32 : Nat) ≤ 32 by decide), by rfl, by simp [u8v, Value.oneCell']⟩, ?_⟩
    intro h7 w7
    replace w7 := w7.cast (l' := (Sha.bytes s').map u8v) (by simp [splice, Sha.bytes_length])
    refine cw_ret ?_
    conv => whnf
    refine ⟨_, by rfl, w7.new.all, ?_⟩
    have s7 := w7.size; have s6 := x6.size
    refine ⟨?_, ⟨by omega, fun b hb => by rw [w7.block b (by omega), x6.block b hb]⟩⟩
    rw [hsum]
    rfl
theorem sum_q {h : Heap} {p : Nat} {v : Value} {s : Sha.S8} {l : List UInt8} {n : Nat} (H : HashAt h p v s l n) (hl : l.length ≤ 100000000000000) (hn : n ≤ 2305843009213693951) :
    FxQ Tryz.prog 68 #[.pointer (some ⟨p, 0, none⟩)] h (.agg ((Sha.sum s l n).map u8v).toArray) := fun _ x => sum_fn (H.more x) hl hn
end Go.Proofs.YtgecapllodgdeaaGreatDoor
