/-
  The contracts of package sha's Clone and Sum.
  The contracts of package sha's Write, Len, Reset, Of, State.
  The contracts of package sha's Of, Reset; constant bytes; the laws' awake.
  '==' of arrays of integers.
  The contract of the laws' awake.
  The contracts of the document's Alike, eight, Pad, and of the laws' num.
  Texts and bytes.
-/
import Derived.Test.YtdielfpgekenkaaGreatDoorJ4
import Derived.Test.YtdielfpgekenkaaGreatDoorJ3
import Derived.ChangeKeysEq
import Derived.Laws.IdiomStrings
import Derived.Laws.BytesArg
import Derived.Laws.Strings
namespace Go.Proofs.YtdielfpgekenkaaGreatDoor
open Go Vm
set_option maxRecDepth 100000
theorem hclone_fn {h : Heap} {p : Nat} {v : Value} {s : Sha.S8} {l : List UInt8} {n : Nat} (H : HashAt h p v s l n) (hl : l.length ≤ 140737488355328) :
    Fx Tryz.prog 430 #[.pointer (some ⟨p, 0, none⟩)] h fun u h' => ∃ q v', u = .pointer (some ⟨q, 0, none⟩) ∧ h.size ≤ q ∧ HashAt h' q v' s l n ∧ ExtH h h' ∧ ∀ b, ob v' b → h.size ≤ b := by
  refine fn_of 22 Tryz.func430 rfl (by kernel_rfl) rfl (by simp) ?_
  refine cw_seq (cw_region rfl ?_)
  refine cw_seq (cw_seq (cw_region rfl ?_))
  conv => whnf
  refine ⟨.bool false, fun w => by kernel_rfl, ?_⟩
  refine cw_false rfl (cw_skip ?_)
  refine cw_seq (cw_region rfl ?_)
  conv => whnf
  refine ⟨_, rfl, _, ready_fn (H.blk.rd rfl), ?_⟩
  rintro _ h1 ⟨rfl, rfl⟩
  refine cw_seq ?_
  refine cw_drawn (by kernel_rfl) 14 (fun i => i == 8) [0, 1, 2, 3, 4, 5, 6, 7, 9, 10, 11, 12, 8, 13] (by kernel_rfl) rfl ?_
  conv => whnf
  refine ⟨_, by rfl, H.words, ?_⟩
  conv => whnf
  refine ⟨_, H.buf, ?_⟩
  conv => whnf
  refine ⟨_, (H.blk.rd (o := 10) rfl), ?_⟩
  conv => whnf
  intro h2 x2
  refine ⟨_, rfl, _, clone_fn (Src.more H.own.r x2) hl, ?_⟩
  rintro v' h3 ⟨o3, x3, f3⟩
  obtain ⟨a3, k3, e3⟩ := o3.r.len
  subst e3
  refine ⟨x3.toU _, ?_⟩
  intro h4 x4
  conv => whnf
  refine ⟨_, rfl, (hashC s (.slice a3 l.length k3) n).toArray, fun w => by kernel_rfl, ?_⟩
  conv => whnf
  intro h5 x5
  conv => whnf
  intro h6 n6
  refine cw_ret ?_
  have z2 := x2.size; have z3 := x3.size; have z4 := x4.size; have z5 := x5.size
  exact ⟨h5.size, _, rfl, by omega, ⟨n6.blk, OwnS.more o3 ((x4.trans x5).trans n6.ext)⟩, ((x2.trans x3).trans (x4.trans x5)).trans n6.ext, fun b hb => by have := f3 b hb; omega⟩
theorem partk_int {P : Program} {T : TypeId} {cs : Array Value} {off : Nat} {k : Value → Prop} {v : Value} {kd : IntKind} (hT : P.underlying T = some (.int kd)) (hi : (P.info? T).isSome = true) (hv : cs[off]? = some v) (H : k v) : partk P T cs off k := by
  obtain ⟨i, hi⟩ := Option.isSome_iff_exists.1 hi
  unfold partk
  simp only [hT, hi, hv]
  exact H
def dcells (s : Sha.S8) (i : Nat) : List Value := ((Sha.bytes s).map u8v).take (4 * i) ++ List.replicate (32 - 4 * i) (u8v 0)
theorem dcells_set (s : Sha.S8) (i : Nat) (hi : i < 8) :
    ((((dcells s i).set (4 * i) (u8v (UInt8.ofNat ((s.list.getD i 0).toNat / 16777216)))).set (4 * i + 1) (u8v (UInt8.ofNat ((s.list.getD i 0).toNat / 65536)))).set (4 * i + 2) (u8v (UInt8.ofNat ((s.list.getD i 0).toNat / 256)))).set (4 * i + 3) (u8v (UInt8.ofNat (s.list.getD i 0).toNat)) = dcells s (i + 1) := by
  have : i = 0 ∨ i = 1 ∨ i = 2 ∨ i = 3 ∨ i = 4 ∨ i = 5 ∨ i = 6 ∨ i = 7 := by omega
  rcases this with rfl | rfl | rfl | rfl | rfl | rfl | rfl | rfl <;> rfl
theorem dcells_length (s : Sha.S8) (i : Nat) (hi : i ≤ 8) : (dcells s i).length = 32 := by simp [dcells, Sha.bytes_length]; omega
theorem shr_byte (x : UInt32) (k : Int) (m d : Nat) (hk : min k.toNat 32 = m) (hd : 2 ^ m = d) : Value.int .u8 (IntKind.u8.wrap ((x.toNat : Int) / 2 ^ min k.toNat 32)) = u8v (UInt8.ofNat (x.toNat / d)) := by
  rw [hk, show (x.toNat : Int) / 2 ^ m = ((x.toNat / d : Nat) : Int) by rw [← hd]; simp, wrap8_nat]
  rfl
theorem sum_fn {h : Heap} {p : Nat} {v : Value} {s : Sha.S8} {l : List UInt8} {n : Nat} (H : HashAt h p v s l n) (hl : l.length ≤ 100000000000000) (hn : n ≤ 2305843009213693951) :
    Fx Tryz.prog 306 #[.pointer (some ⟨p, 0, none⟩)] h fun u h' => u = .agg ((Sha.sum s l n).map u8v).toArray ∧ ExtH h h' := by
  refine fn_of 61 Tryz.func306 rfl (by kernel_rfl) rfl (by simp) ?_
  refine cw_seq (cw_region rfl ?_)
  conv => whnf
  intro h1 n1
  refine cw_seq (cw_region rfl ?_)
  conv => whnf
  intro h2 n2
  refine cw_seq (cw_seq (cw_region rfl ?_))
  conv => whnf
  refine ⟨.bool false, fun w => by kernel_rfl, ?_⟩
  refine cw_false rfl (cw_skip ?_)
  have z1 := n1.size; have z2 := n2.size
  have H2 := H.more (n1.ext.trans n2.ext)
  refine cw_seq (cw_region rfl ?_)
  conv => whnf
  refine ⟨_, rfl, _, hclone_fn H2 (by omega), ?_⟩
  rintro _ h3 ⟨q, v3, rfl, hq, H3, x3, f3⟩
  conv => whnf
  refine cw_seq (cw_region rfl ?_)
  conv => whnf
  refine ⟨_, H3.blk.rd (o := 10) rfl, ?_⟩
  conv => whnf
  refine ⟨_, rfl, _, pad_yes n hn h3, ?_⟩
  rintro _ h4 ⟨v4, rfl, o4, x4, f4⟩
  conv => whnf
  refine cw_seq (cw_region rfl ?_)
  conv => whnf
  have hz : Sha.zeros n < 64 := by unfold Sha.zeros; omega
  refine ⟨_, rfl, _, take_fn (H3.more x4) o4.r (by rw [Sha.pad_length]; omega), ?_⟩
  rintro _ h5 ⟨v5, H5, c5, f5⟩
  have y1 : Blk h1 h.size (List.replicate 32 (u8v 0)) 85 := n1.blk
  have y2 : Blk h2 h1.size (dcells (Sha.feed s (l ++ Sha.pad n)) 0) 85 := n2.blk
  have z3 := x3.size; have z4 := x4.size; have z5 := c5.size
  have b1 : Blk h5 h.size (List.replicate 32 (u8v 0)) 85 := by
    refine c5.blk (x4.blk (x3.blk (n2.ext.blk y1))) (fun e => ?_)
    rcases e with e | e
    · omega
    · have := f3 _ e; omega
  have b2 : Blk h5 h1.size (dcells (Sha.feed s (l ++ Sha.pad n)) 0) 85 := by
    refine c5.blk (x4.blk (x3.blk y2)) (fun e => ?_)
    rcases e with e | e
    · omega
    · have := f3 _ e; omega
  have x5 : ExtH h h5 := ⟨by omega, fun b hb => by
    rw [c5.block b (by omega) (fun e => by
      rcases e with e | e
      · omega
      · have := f3 _ e; omega), x4.block b (by omega), x3.block b (by omega), n2.block b (by omega), n1.block b hb]⟩
  generalize hs' : Sha.feed s (l ++ Sha.pad n) = s' at *
  have hsum : Sha.sum s l n = Sha.bytes s' := by rw [← hs']; rfl
  generalize hdb : h1.size = db at *
  clear y1 y2 f5 c5 x4 o4 f4 f3 x3 H3 H2 n2 n1
  refine cw_seq (cw_seq (cw_region rfl ?_))
  conv => whnf
  refine ⟨_, by rfl, H5.words, ?_⟩
  conv => whnf
  refine cw_block ?_
  refine cw_loop (S := Nat) (fun t => [(2, .pointer (some ⟨h.size, 0, none⟩)), (3, .pointer (some ⟨db, 0, none⟩)), (28, .agg (s'.list.map u32v).toArray), (29, .int .i64 (t : Int))])
    (fun t h' => t ≤ 8 ∧ Blk h' h.size (List.replicate 32 (u8v 0)) 85 ∧ Blk h' db (dcells s' t) 85 ∧ ExtH h h') (fun t => 8 - t) 0 ⟨rfl, rfl, rfl, rfl, trivial⟩ ⟨by omega, b1, b2, x5⟩ ?_
  clear b1 b2 x5 H5
  rintro t h6 ⟨ht, b1, b2, x6⟩
  refine cw_seq (cw_region rfl ?_)
  by_cases hlt : t < 8
  · refine cw_seq (cw_yes rfl (by omega) (cw_skip ?_))
    refine cw_seq (cw_block (cw_seq (cw_region rfl ?_)))
    conv => whnf
    refine ⟨⟨by omega, by show (t : Int) < ((8 : Nat) : Int); omega⟩, partk_int (v := u32v (s'.list.getD t 0)) (kd := .u32) rfl rfl ?_ ?_⟩
    · show (s'.list.map u32v).toArray[((t : Int)).toNat * 1]? = _
      rw [List.getElem?_toArray, show ((t : Int)).toNat * 1 = t by omega]
      exact map_get u32v _ t 0 (by show t < 8; exact hlt)
    refine cw_region rfl ?_
    have e0 := i64_eq (4 * (t : Int)) (4 * t) (by omega) (by omega)
    have e1 := i64_eq (IntKind.i64.wrap (4 * (t : Int)) + 1) (4 * t + 1) (by omega) (by omega)
    have e2 := i64_eq (IntKind.i64.wrap (4 * (t : Int)) + 2) (4 * t + 2) (by omega) (by omega)
    have e3 := i64_eq (IntKind.i64.wrap (4 * (t : Int)) + 3) (4 * t + 3) (by omega) (by omega)
    have hlen := dcells_length s' t ht
    conv => whnf
    refine ⟨by decide, ?_⟩
    conv => whnf
    refine ⟨by decide, ?_⟩
    conv => whnf
    refine ⟨by decide, ?_⟩
    conv => whnf
    refine ⟨⟨by omega, by omega⟩, ?_⟩
    conv => whnf
    refine ⟨_, _, b2, by omega, ?_⟩
    intro h7 w7
    replace w7 := w7.cast (l' := (dcells s' t).set (4 * t) (u8v (UInt8.ofNat ((s'.list.getD t 0).toNat / 16777216))))
      (congr (congrArg (List.set (dcells s' t)) (by omega)) (shr_byte _ 24 24 _ (by decide) (by decide)))
    conv => whnf
    refine ⟨⟨by omega, by omega⟩, ?_⟩
    conv => whnf
    refine ⟨_, _, w7.new, by simp only [List.length_set]; omega, ?_⟩
    intro h8 w8
    replace w8 := w8.cast (l' := ((dcells s' t).set (4 * t) (u8v (UInt8.ofNat ((s'.list.getD t 0).toNat / 16777216)))).set (4 * t + 1) (u8v (UInt8.ofNat ((s'.list.getD t 0).toNat / 65536))))
      (congr (congrArg (List.set _) (by omega)) (shr_byte _ 16 16 _ (by decide) (by decide)))
    conv => whnf
    refine ⟨⟨by omega, by omega⟩, ?_⟩
    conv => whnf
    refine ⟨_, _, w8.new, by simp only [List.length_set]; omega, ?_⟩
    intro h9 w9
    replace w9 := w9.cast (l' := (((dcells s' t).set (4 * t) (u8v (UInt8.ofNat ((s'.list.getD t 0).toNat / 16777216)))).set (4 * t + 1) (u8v (UInt8.ofNat ((s'.list.getD t 0).toNat / 65536)))).set (4 * t + 2) (u8v (UInt8.ofNat ((s'.list.getD t 0).toNat / 256))))
      (congr (congrArg (List.set _) (by omega)) (shr_byte _ 8 8 _ (by decide) (by decide)))
    conv => whnf
    refine ⟨⟨by omega, by omega⟩, ?_⟩
    conv => whnf
    refine ⟨_, _, w9.new, by simp only [List.length_set]; omega, ?_⟩
    intro h10 w10
    replace w10 := w10.cast (l' := dcells s' (t + 1)) (by
      rw [← dcells_set s' t hlt]
      refine congr (congrArg (List.set _) (by omega)) (congrArg (Value.int .u8) ?_)
      exact wrap8_nat _)
    refine cw_region rfl ?_
    have hne : h.size ≠ db := by omega
    refine ⟨t + 1, ⟨rfl, rfl, rfl, slot_i64 _ _ (by omega) (by omega), trivial⟩, ⟨by omega, w10.blk (w9.blk (w8.blk (w7.blk b1 hne) hne) hne) hne, w10.new, ?_⟩, by omega⟩
    have s7 := w7.size; have s8 := w8.size; have s9 := w9.size; have s10 := w10.size; have s6 := x6.size
    exact ⟨by omega, fun b hb => by rw [w10.block b (by omega), w9.block b (by omega), w8.block b (by omega), w7.block b (by omega), x6.block b hb]⟩
  · refine cw_seq (cw_no rfl (by omega) (cw_exit ?_))
    have t8 : t = 8 := by omega
    subst t8
    have e32 : dcells s' 8 = (Sha.bytes s').map u8v := rfl
    rw [e32] at b2
    refine cw_seq (cw_region rfl ?_)
    conv => whnf
    refine ⟨_, by rfl, b2.all, ?_⟩
    conv => whnf
    refine ⟨_, _, b1, ⟨(show (32 : Nat) ≤ 32 by decide), by rfl, by simp [u8v, Value.oneCell']⟩, ?_⟩
    intro h7 w7
    replace w7 := w7.cast (l' := (Sha.bytes s').map u8v) (by simp [splice, Sha.bytes_length])
    refine cw_ret ?_
    conv => whnf
    refine ⟨_, by rfl, w7.new.all, ?_⟩
    have s7 := w7.size; have s6 := x6.size
    refine ⟨?_, ⟨by omega, fun b hb => by rw [w7.block b (by omega), x6.block b hb]⟩⟩
    rw [hsum]
    rfl
theorem sum_q {h : Heap} {p : Nat} {v : Value} {s : Sha.S8} {l : List UInt8} {n : Nat} (H : HashAt h p v s l n) (hl : l.length ≤ 100000000000000) (hn : n ≤ 2305843009213693951) :
    FxQ Tryz.prog 306 #[.pointer (some ⟨p, 0, none⟩)] h (.agg ((Sha.sum s l n).map u8v).toArray) := fun _ x => sum_fn (H.more x) hl hn
end Go.Proofs.YtdielfpgekenkaaGreatDoor
namespace Go.Proofs.YtdielfpgekenkaaGreatDoor
open Go Vm
set_option maxRecDepth 100000
/-- bytes that are read, in blocks of D -/
def RD (D : Nat → Prop) (h : Heap) (v : Value) (l : List UInt8) : Prop := RB h v l ∧ (l ≠ [] → ∀ b, ob v b → D b)
theorem Src.keep0 {S : Nat → Prop} {h h' : Heap} {k : Nat} {v : Value} {n : Nat} {xs : List Value} (H : Src h k v n xs) (c : Chg S h h') (hn : xs ≠ [] → ∀ b, ob v b → ¬ S b) : Src h' k v n xs := by
  by_cases hx : xs = []
  · subst hx
    refine ⟨H.1, ?_⟩
    rcases H.2 with h0 | ⟨A, cap, rfl, hc, hm, hr⟩
    · exact .inl h0
    · exact .inr ⟨A, cap, rfl, hc, hm, fun j v hj => by simp at hj⟩
  · exact H.keep c (hn hx)
theorem RD.keep {D S : Nat → Prop} {h h' : Heap} {v : Value} {l : List UInt8} (H : RD D h v l) (c : Chg S h h') (hD : ∀ b, D b → ¬ S b) : RD D h' v l :=
  ⟨Src.keep0 H.1 c (fun hx b hb => hD b (H.2 (by simpa using hx) b hb)), H.2⟩
/-- a list of parts that are read, in blocks of D -/
structure PD (D : Nat → Prop) (h : Heap) (x : Value) (ms : List (List UInt8)) (pv : List Value) : Prop where
  src : Src h 1 x ms.length pv
  out : ms ≠ [] → ∀ b, ob x b → D b
  part : ∀ (i : Nat) (m : List UInt8), ms[i]? = some m → ∃ v, pv[i]? = some v ∧ RD D h v m
theorem PD.keep {D S : Nat → Prop} {h h' : Heap} {x : Value} {ms : List (List UInt8)} {pv : List Value} (H : PD D h x ms pv) (c : Chg S h h') (hD : ∀ b, D b → ¬ S b) : PD D h' x ms pv := by
  refine ⟨Src.keep0 H.src c (fun hx b hb => hD b (H.out (fun e => hx ?_) b hb)), H.out, fun i m hi => ?_⟩
  · subst e
    have := H.src.1
    exact List.eq_nil_of_length_eq_zero (by simpa using this)
  · obtain ⟨v, h1, h2⟩ := H.part i m hi
    exact ⟨v, h1, h2.keep c hD⟩
theorem PD.form {D : Nat → Prop} {h : Heap} {x : Value} {ms : List (List UInt8)} {pv : List Value} (H : PD D h x ms pv) : (x = .slice none 0 0 ∧ ms = []) ∨ ∃ A cap, x = .slice (some A) ms.length cap ∧ ms.length ≤ cap ∧ cap ≤ maxLen ∧ rdA h A pv := by
  rcases H.src.2 with ⟨rfl, h0⟩ | ⟨A, cap, rfl, h1, h2, h3⟩
  · exact .inl ⟨rfl, List.eq_nil_of_length_eq_zero h0⟩
  · exact .inr ⟨A, cap, rfl, h1, h2, h3⟩
def upto (ms : List (List UInt8)) (t : Nat) : List UInt8 := (ms.take t).flatten
theorem upto_zero (ms : List (List UInt8)) : upto ms 0 = [] := rfl
theorem upto_all (ms : List (List UInt8)) : upto ms ms.length = ms.flatten := by simp [upto]
theorem upto_succ (ms : List (List UInt8)) (t : Nat) (m : List UInt8) (h : ms[t]? = some m) : upto ms (t + 1) = upto ms t ++ m := by
  unfold upto
  rw [List.take_add_one, h]
  simp
theorem upto_le (ms : List (List UInt8)) (t : Nat) : (upto ms t).length ≤ ms.flatten.length := by
  have := congrArg (fun l => l.flatten.length) (List.take_append_drop t ms)
  simp only [List.flatten_append, List.length_append] at this
  unfold upto
  omega
theorem write_fn {D : Nat → Prop} {h : Heap} {p : Nat} {v x : Value} {s : Sha.S8} {l : List UInt8} {n : Nat} {ms : List (List UInt8)} {pv : List Value} (H : HashAt h p v s l n) (hx : PD D h x ms pv)
    (hD : ∀ b, D b → b < h.size ∧ b ≠ p ∧ ¬ ob v b) (hl : l.length < 64) (hms : ms.flatten.length ≤ 100000000000000) (hn : n + ms.flatten.length ≤ 2305843009213693951) :
    Fx Tryz.prog 305 #[.pointer (some ⟨p, 0, none⟩), x] h fun u h' => u = .int .i64 0 ∧ ∃ v', HashAt h' p v' (Sha.feed s (l ++ ms.flatten)) (Sha.rest (l ++ ms.flatten)) (n + ms.flatten.length) ∧
      Chg (fun b => b = p ∨ ob v b) h h' ∧ ∀ b, ob v' b → ob v b ∨ h.size ≤ b := by
  refine fn_of 46 Tryz.func305 rfl (by kernel_rfl) rfl (by simp) ?_
  refine cw_seq (cw_region rfl ?_)
  refine cw_seq (cw_seq (cw_region rfl ?_))
  conv => whnf
  refine ⟨.bool false, fun w => by kernel_rfl, ?_⟩
  refine cw_false rfl (cw_skip ?_)
  refine cw_seq (cw_region rfl ?_)
  conv => whnf
  refine ⟨_, rfl, _, ready_fn (H.blk.rd rfl), ?_⟩
  rintro _ h0 ⟨rfl, e⟩
  subst h0
  conv => whnf
  refine cw_seq (cw_region rfl ?_)
  conv => whnf
  refine ⟨_, H.blk.rd (o := 10) rfl, ?_⟩
  have hlen : ms.length ≤ maxLen := by
    rcases hx.form with ⟨rfl, rfl⟩ | ⟨A, cap, rfl, hc, hm, hr⟩
    · exact Nat.zero_le _
    · omega
  have hfx : ∃ a c, x = .slice a ms.length c := by
    rcases hx.form with ⟨rfl, rfl⟩ | ⟨A, cap, rfl, hc, hm, hr⟩
    · exact ⟨_, _, rfl⟩
    · exact ⟨_, _, rfl⟩
  have hmax : maxLen < 9223372036854775808 := by decide
  obtain ⟨a, c, hfx⟩ := hfx
  refine cw_seq (cw_seq (cw_region rfl ?_))
  subst hfx
  conv => whnf
  refine cw_block ?_
  refine cw_loop (S := Nat) (fun t => [(0, .pointer (some ⟨p, 0, none⟩)), (1, .slice a ms.length c), (5, .int .u64 ((n + (upto ms t).length : Nat) : Int)), (18, .slice a ms.length c), (19, .int .i64 (ms.length : Int)), (20, .int .i64 (t : Int))])
    (fun t h' => t ≤ ms.length ∧ h' = h) (fun t => ms.length - t) 0 ⟨rfl, rfl, rfl, rfl, rfl, rfl, trivial⟩ ⟨by omega, rfl⟩ ?_
  rintro t h0 ⟨ht, e⟩
  subst h0
  refine cw_seq (cw_region rfl ?_)
  have row : ∀ {h' : Heap}, PD D h' (.slice a ms.length c) ms pv → ∀ (t : Nat), t < ms.length → ∃ b o m v, a = some ⟨b, o, none⟩ ∧ ms[t]? = some m ∧ rd h' ⟨b, o + t, none⟩ = some v ∧ RD D h' v m := fun hx t hlt => by
    obtain ⟨v, h1, h2⟩ := hx.part t ms[t] (List.getElem?_eq_getElem hlt)
    rcases hx.form with ⟨h3, h4⟩ | ⟨A, cap, h3, hc, hm, hr⟩
    · rw [h4] at hlt; simp at hlt
    · injection h3 with h3
      have hs := hr.spot (by intro e; subst e; simp at h1)
      rw [hs, rdA_plain] at hr
      exact ⟨A.block, A.off, _, v, by rw [← hs]; exact h3, List.getElem?_eq_getElem hlt, hr t v h1, h2⟩
  by_cases hlt : t < ms.length
  · refine cw_seq (cw_yes rfl (by omega) (cw_skip ?_))
    obtain ⟨b, o, m, u, rfl, hm, hr, hu⟩ := row hx t hlt
    refine cw_seq (cw_block (cw_seq (cw_region rfl ?_)))
    conv => whnf
    refine ⟨⟨by omega, by omega⟩, ?_⟩
    conv => whnf
    refine ⟨_, hr, ?_⟩
    conv => whnf
    obtain ⟨ua, uc, hue⟩ := hu.1.len
    have hsucc := upto_succ ms t m hm
    have hle := upto_le ms (t + 1)
    have hle' : (upto ms (t + 1)).length = (upto ms t).length + m.length := by rw [hsucc]; simp
    refine cw_seq (cw_region rfl ?_)
    subst hue
    conv => whnf
    have e1 := u64_in (m.length : Int) m.length rfl (by omega)
    have e2 := u64_in (((n + (upto ms t).length : Nat) : Int) + IntKind.u64.wrap (m.length : Int)) (n + (upto ms (t + 1)).length) (by rw [e1]; omega) (by omega)
    refine cw_seq (cw_region rfl ?_)
    conv => whnf
    refine cw_no rfl (by omega) (cw_skip ?_)
    refine cw_region rfl ?_
    exact ⟨t + 1, ⟨rfl, rfl, congrArg (fun i => some (Value.int .u64 i)) e2, rfl, rfl, slot_i64 _ _ (by omega) (by omega), trivial⟩, ⟨by omega, rfl⟩, by omega⟩
  · refine cw_seq (cw_no rfl (by omega) (cw_exit ?_))
    have tn : t = ms.length := by omega
    subst tn
    clear hlt ht
    rw [upto_all]
    refine cw_seq (cw_seq (cw_region rfl ?_))
    conv => whnf
    refine cw_block ?_
    refine cw_loop (S := Nat) (fun t => [(0, .pointer (some ⟨p, 0, none⟩)), (5, .int .u64 ((n + ms.flatten.length : Nat) : Int)), (32, .slice a ms.length c), (33, .int .i64 (ms.length : Int)), (34, .int .i64 (t : Int))])
      (fun t h' => t ≤ ms.length ∧ ∃ v', HashAt h' p v' (Sha.feed s (l ++ upto ms t)) (Sha.rest (l ++ upto ms t)) n ∧ Chg (fun b => b = p ∨ ob v b) h h' ∧ ∀ b, ob v' b → ob v b ∨ h.size ≤ b) (fun t => ms.length - t) 0
      ⟨rfl, rfl, rfl, rfl, rfl, trivial⟩ ⟨by omega, v, ?_, ⟨Nat.le_refl _, fun _ _ _ => rfl⟩, fun b hb => .inl hb⟩ ?_
    · rw [upto_zero, List.append_nil, Sha.feed_lt s hl, Sha.rest_short hl]
      exact H
    rintro t h1 ⟨ht, v1, H1, c1, f1⟩
    have hx1 : PD D h1 (.slice a ms.length c) ms pv := hx.keep c1 (fun b hb e => by
      obtain ⟨h2, h3, h4⟩ := hD b hb
      rcases e with e | e
      · exact h3 e
      · exact h4 e)
    refine cw_seq (cw_region rfl ?_)
    by_cases hlt : t < ms.length
    · refine cw_seq (cw_yes rfl (by omega) (cw_skip ?_))
      obtain ⟨b, o, m, u, rfl, hm, hr, hu⟩ := row hx1 t hlt
      refine cw_seq (cw_block (cw_seq (cw_region rfl ?_)))
      conv => whnf
      refine ⟨⟨by omega, by omega⟩, ?_⟩
      conv => whnf
      refine ⟨_, hr, ?_⟩
      conv => whnf
      have hsucc := upto_succ ms t m hm
      have hle := upto_le ms (t + 1)
      have hle' : (upto ms (t + 1)).length = (upto ms t).length + m.length := by rw [hsucc]; simp
      have hrl := Sha.rest_lt (l ++ upto ms t)
      refine cw_region rfl ?_
      conv => whnf
      refine ⟨_, rfl, _, take_fn H1 hu.1 (by omega), ?_⟩
      rintro _ h2 ⟨v2, H2, c2, f2⟩
      have z1 := c1.size
      refine cw_region rfl ?_
      refine ⟨t + 1, ⟨rfl, rfl, rfl, rfl, slot_i64 _ _ (by omega) (by omega), trivial⟩, ⟨by omega, v2, ?_, ?_, fun b hb => .inr ?_⟩, by omega⟩
      · rw [← Sha.feed_app, Sha.rest_app, List.append_assoc, ← hsucc] at H2
        exact H2
      · refine (c1.trans c2).mono (fun b hb e => ?_)
        rcases e with e | e | e
        · exact e
        · exact .inl e
        · rcases f1 b e with e | e
          · exact .inr e
          · omega
      · have := f2 b hb; omega
    · refine cw_seq (cw_no rfl (by omega) (cw_exit ?_))
      have tn : t = ms.length := by omega
      subst tn
      rw [upto_all] at H1
      refine cw_seq (cw_region rfl ?_)
      conv => whnf
      refine ⟨_, _, H1.blk, (show (10 : Nat) < 11 by decide), ?_⟩
      intro h2 w2
      replace w2 := w2.cast (l' := hashC (Sha.feed s (l ++ ms.flatten)) v1 (n + ms.flatten.length)) rfl
      have hne := H1.ne
      refine cw_seq (cw_region rfl ?_)
      refine cw_ret ?_
      exact ⟨rfl, v1, ⟨w2.new, OwnS.keep H1.own w2.chg (fun b hb e => hne (e ▸ hb))⟩, (c1.trans w2.chg).mono (fun b _ e => by
        rcases e with e | e
        · exact e
        · exact .inl e), f1⟩
end Go.Proofs.YtdielfpgekenkaaGreatDoor
namespace Go.Proofs.YtdielfpgekenkaaGreatDoor
open Go Vm
set_option maxRecDepth 100000
/-- block b is read as l, and nothing else is turned -/
structure Marked (h h' : Heap) (b : Nat) (l : List Value) : Prop where
  size : h'.size = h.size
  rd : rdN h' b 0 l
  block : ∀ c, c ≠ b → h'[c]? = h[c]?
theorem conv_bytes {P : Program} {t e : TypeId} (ht : P.underlying t = some (.slice e)) (he : P.underlying e = some (.int .u8)) {h : Heap} {b o n c : Nat} {l : List Value} {e' : TypeId} (hb : Blk h b l e') :
    RunsV P (convert t t (.slice (some ⟨b, o, none⟩) n c)) h fun v h' => v = .slice (some ⟨b, o, none⟩) n c ∧ Marked h h' b l := by
  intro w hw
  subst hw
  have hsh : w.shape? b = some (e', l.length) := by
    unfold World.shape?
    rw [show w.heap[b]? = some (.cells l.toArray e' (0, 0)) from hb]
    simp
  have hlt := hb.lt
  have hnew : (w.freeze ⟨b, l.length, none⟩ 1).heap[b]? = some (.cells l.toArray e' (l.length, l.length + 1)) := by
    unfold World.freeze
    rw [if_neg (by decide)]
    simp only [Array.getElem?_modify]
    rw [show w.heap[b]? = some (.cells l.toArray e' (0, 0)) from hb]
    rfl
  refine ⟨.slice (some ⟨b, o, none⟩) n c, w.freeze ⟨b, l.length, none⟩ 1, ?_, ⟨?_, ?_, ?_⟩, rfl, ⟨?_, ?_, ?_⟩⟩
  · simp [convert, run_underlying ht, run_underlying he, markStringish, hsh]
  · simp [World.freeze]
  · simp [World.freeze]
  · simp [World.freeze]
  · simp [World.freeze]
  · intro j v hj
    unfold Vm.rd
    rw [show ((⟨b, 0 + j, none⟩ : Addr)).block = b from rfl, hnew]
    simpa using hj
  · intro k hk
    unfold World.freeze
    rw [if_neg (by decide)]
    simp only [Array.getElem?_modify]
    rw [if_neg (fun e => hk e.symm)]
theorem of_fn {D : Nat → Prop} {h : Heap} {x : Value} {ms : List (List UInt8)} {pv : List Value} (hx : PD D h x ms pv) (hD : ∀ b, D b → b < h.size) (hms : ms.flatten.length ≤ 100000000000000) :
    Fx Tryz.prog 198 #[x] h fun u h' => u = .agg ((Sha.digest ms.flatten).map u8v).toArray ∧ ExtH h h' := by
  refine fn_of 10 Tryz.func198 rfl (by kernel_rfl) rfl (by simp) ?_
  refine cw_seq (cw_region rfl ?_)
  conv => whnf
  intro h1 n1
  refine cw_seq (cw_region rfl ?_)
  conv => whnf
  refine ⟨_, rfl, _, new_fn h1, ?_⟩
  rintro _ h2 ⟨p, rfl, hp, H2, x2⟩
  conv => whnf
  have z1 := n1.size; have z2 := x2.size
  have hx2 : PD D h2 x ms pv := hx.keep ((n1.ext.trans x2).chg (S := fun _ => False)) (fun _ _ e => e)
  refine cw_seq (cw_region rfl ?_)
  conv => whnf
  refine ⟨_, rfl, _, write_fn H2 hx2 (fun b hb => by have := hD b hb; exact ⟨by omega, by omega, ob_nil⟩) (by decide) hms (by omega), ?_⟩
  rintro _ h3 ⟨rfl, v3, H3, c3, f3⟩
  conv => whnf
  have hr := Sha.rest_lt ([] ++ ms.flatten)
  refine cw_seq (cw_region rfl ?_)
  conv => whnf
  refine ⟨_, rfl, _, sum_fn H3 (by omega) (by omega), ?_⟩
  rintro _ h4 ⟨rfl, x4⟩
  have z3 := c3.size; have z4 := x4.size
  conv => whnf
  have b4 : Blk h4 h.size (List.replicate 32 (u8v 0)) 85 := by
    have : Blk h1 h.size (List.replicate 32 (u8v 0)) 85 := n1.blk
    refine x4.blk (c3.blk (x2.blk this) (fun e => ?_))
    rcases e with e | e
    · omega
    · exact ob_nil e
  refine ⟨_, _, b4, ⟨(show (32 : Nat) ≤ 32 by decide), by rfl, by simp [u8v, Value.oneCell']⟩, ?_⟩
  intro h5 w5
  replace w5 := w5.cast (l' := (Sha.digest ms.flatten).map u8v) (by simp [splice, Sha.sum_length, Sha.digest])
  refine cw_ret ?_
  conv => whnf
  refine ⟨_, by rfl, w5.new.all, rfl, ?_⟩
  have z5 := w5.size
  exact ⟨by omega, fun b hb => by
    rw [w5.block b (by omega), x4.block b (by omega), c3.block b (by omega) (fun e => by
      rcases e with e | e
      · omega
      · exact ob_nil e), x2.block b (by omega), n1.block b hb]⟩
theorem of_q {D : Nat → Prop} {h : Heap} {x : Value} {ms : List (List UInt8)} {pv : List Value} (hx : PD D h x ms pv) (hD : ∀ b, D b → b < h.size) (hms : ms.flatten.length ≤ 100000000000000) :
    FxQ Tryz.prog 198 #[x] h (.agg ((Sha.digest ms.flatten).map u8v).toArray) := fun _ x1 =>
  of_fn (hx.keep (x1.chg (S := fun _ => False)) (fun _ _ e => e)) (fun b hb => Nat.lt_of_lt_of_le (hD b hb) x1.size) hms
end Go.Proofs.YtdielfpgekenkaaGreatDoor
namespace Go.Proofs.YtdielfpgekenkaaGreatDoor.Vm
open Go
theorem run_eqItems_ints {P : Program} {e : TypeId} {kd kd' : IntKind} (hu : P.underlying e = some (.int kd')) (hp : P.plainKey e = true) (d : Nat) (la lb : List Int) (w : World) :
    ∀ is : List Nat, (∀ i ∈ is, i < la.length ∧ i < lb.length) → (Op.eqItems (d + 1) e 1 (la.map (Value.int kd)).toArray (lb.map (Value.int kd)).toArray is).run P w = .ok (is.all fun i => la.getD i 0 == lb.getD i 0) w
  | [], _ => by simp [Op.eqItems]
  | i :: is, hall => by
    obtain ⟨h1, h2⟩ := hall i (by simp)
    have e1 : ((la.map (Value.int kd)).toArray)[i * 1]? = some (.int kd (la.getD i 0)) := by simp [h1]
    have e2 : ((lb.map (Value.int kd)).toArray)[i * 1]? = some (.int kd (lb.getD i 0)) := by simp [h2]
    unfold Op.eqItems
    simp only [Sem.run_bind, run_part_plain w hp e1, run_part_plain w hp e2, Result.andThen_ok, run_equalIn_int w d e kd kd' _ _ hu]
    cases hc : (la.getD i 0 == lb.getD i 0) with
    | false => simp only [Bool.not_false, if_true, List.all_cons, hc, Bool.false_and]; rfl
    | true =>
      simp only [Bool.not_true, List.all_cons, hc, Bool.true_and]
      exact run_eqItems_ints hu hp d la lb w is (fun j hj => hall j (by simp [hj]))
theorem all_range_eq (n : Nat) (la lb : List Int) (h1 : la.length = n) (h2 : lb.length = n) : ((List.range n).all fun i => la.getD i 0 == lb.getD i 0) = decide (la = lb) := by
  by_cases h : la = lb
  · subst h
    simp
  · rw [decide_eq_false h]
    rw [Bool.eq_false_iff]
    intro hc
    refine h (List.ext_getElem? fun i => ?_)
    by_cases hi : i < n
    · have := List.all_eq_true.1 hc i (List.mem_range.2 hi)
      simp only [beq_iff_eq] at this
      rw [List.getElem?_eq_getElem (by omega), List.getElem?_eq_getElem (by omega)]
      rw [List.getD_eq_getElem?_getD, List.getD_eq_getElem?_getD, List.getElem?_eq_getElem (by omega), List.getElem?_eq_getElem (by omega)] at this
      simpa using this
    · rw [List.getElem?_eq_none (by omega), List.getElem?_eq_none (by omega)]
section
variable {P : Program} {t e : TypeId} {kd kd' : IntKind} {n : Nat} {i : TypeInfo} (ht : P.underlying t = some (.array n e)) (hu : P.underlying e = some (.int kd')) (hp : P.plainKey e = true) (hi : P.info? e = some i) (hc : P.cellsOf e = 1) (hg : P.eqGuardType P.depth t = false)
include ht hu hp hi hc hg
/-- two arrays of integers are the same -/
theorem run_eq_ints (xo yo : Operand) (la lb : List Int) (h1 : la.length = n) (h2 : lb.length = n) (w : World) :
    (do eqGuard .eql t xo yo (.agg (la.map (Value.int kd)).toArray) (.agg (lb.map (Value.int kd)).toArray); binOp .eql t (.agg (la.map (Value.int kd)).toArray) (.agg (lb.map (Value.int kd)).toArray) : Sem Value).run P w = .ok (.bool (decide (la = lb))) w := by
  have he : (Op.equal t (.agg (la.map (Value.int kd)).toArray) (.agg (lb.map (Value.int kd)).toArray)).run P w = .ok (decide (la = lb)) w := by
    unfold Op.equal
    rw [show Op.maxDepth = 9998 + 1 + 1 from rfl, run_equalIn_array (P := P) w (9998 + 1) _ _ ht hi, hc, run_eqItems_ints hu hp 9998 la lb w _ (fun i hi => by rw [List.mem_range] at hi; omega), all_range_eq n la lb h1 h2]
  have hgd : (eqGuard .eql t xo yo (.agg (la.map (Value.int kd)).toArray) (.agg (lb.map (Value.int kd)).toArray)).run P w = .ok () w := by
    simp [eqGuard, hg]
  rw [Sem.run_bind, hgd]
  simp [binOp, he]
theorem run_ne_ints (xo yo : Operand) (la lb : List Int) (h1 : la.length = n) (h2 : lb.length = n) (w : World) :
    (do eqGuard .neq t xo yo (.agg (la.map (Value.int kd)).toArray) (.agg (lb.map (Value.int kd)).toArray); binOp .neq t (.agg (la.map (Value.int kd)).toArray) (.agg (lb.map (Value.int kd)).toArray) : Sem Value).run P w = .ok (.bool (!decide (la = lb))) w := by
  have he : (Op.equal t (.agg (la.map (Value.int kd)).toArray) (.agg (lb.map (Value.int kd)).toArray)).run P w = .ok (decide (la = lb)) w := by
    unfold Op.equal
    rw [show Op.maxDepth = 9998 + 1 + 1 from rfl, run_equalIn_array (P := P) w (9998 + 1) _ _ ht hi, hc, run_eqItems_ints hu hp 9998 la lb w _ (fun i hi => by rw [List.mem_range] at hi; omega), all_range_eq n la lb h1 h2]
  have hgd : (eqGuard .neq t xo yo (.agg (la.map (Value.int kd)).toArray) (.agg (lb.map (Value.int kd)).toArray)).run P w = .ok () w := by
    simp [eqGuard, hg]
  rw [Sem.run_bind, hgd]
  simp [binOp, he]
end
section
variable {P : Program} {n : Nat} {Q : Exit → Fr → Heap → Prop} {fr : Fr} {h : Heap} {c : Operand} {x y : Code}
theorem cw_bne_yes {a b : Int} (hc : ev fr c = some (.bool (a != b))) (hp : a ≠ b) (H : Cw P n x Q fr h) : Cw P n (.cond c x y) Q fr h := cw_true (by rw [hc]; simp [hp]) H
theorem cw_bne_no {a b : Int} (hc : ev fr c = some (.bool (a != b))) (hp : a = b) (H : Cw P n y Q fr h) : Cw P n (.cond c x y) Q fr h := cw_false (by rw [hc]; simp [hp]) H
theorem cw_beq_yes {a b : Int} (hc : ev fr c = some (.bool (a == b))) (hp : a = b) (H : Cw P n x Q fr h) : Cw P n (.cond c x y) Q fr h := cw_true (by rw [hc]; simp [hp]) H
theorem cw_beq_no {a b : Int} (hc : ev fr c = some (.bool (a == b))) (hp : a ≠ b) (H : Cw P n y Q fr h) : Cw P n (.cond c x y) Q fr h := cw_false (by rw [hc]; simp [hp]) H
end
section
variable {P : Program} {all : List Oper} {o : Oper} {r : List Oper} {fr : Fr} {h : Heap} {K : Fr → Heap → Prop}
/-- one operation that only reads, with the value that we say -/
theorem ops_q {v : Value} (hg : o.guard = none) (hq : quietOp P o = true) (hv : ∀ k : Value → Prop, k v → opq P o fr h k) (H : evOps P all r (put fr o.dst v) h K) : evOps P all (o :: r) fr h K := by
  unfold evOps gk
  rw [hg]
  simp only []
  unfold opx
  rw [hq]
  exact hv _ H
/-- the same, of an operation that is carried out where slot d says so -/
theorem ops_g {v : Value} {j d : Nat} {b : Bool} (hg : o.guard = some (j, b)) (hd : (all[j]?).bind (·.dst) = some d) (hl : lk fr d = some (.bool b)) (hq : quietOp P o = true) (hv : ∀ k : Value → Prop, k v → opq P o fr h k)
    (H : evOps P all r (put fr o.dst v) h K) : evOps P all (o :: r) fr h K := by
  unfold evOps gk
  rw [hg]
  simp only [hd, hl]
  have : opx P o fr h (fun v h' => evOps P all r (put fr o.dst v) h' K) := by
    unfold opx
    rw [hq]
    exact hv _ H
  cases b <;> exact this
/-- an operation that is passed over -/
theorem ops_skip {j d : Nat} {b : Bool} (hg : o.guard = some (j, b)) (hd : (all[j]?).bind (·.dst) = some d) (hl : lk fr d = some (.bool !b)) (H : evOps P all r (put fr o.dst undef) h K) : evOps P all (o :: r) fr h K := by
  unfold evOps gk
  rw [hg]
  simp only [hd, hl]
  cases b <;> exact H
theorem head_q {imp : Nat → Bool} {h0 : Heap} {L : Fr → Heap → Prop} {i : Nat} {p : List Nat} {v : Value} (ho : all[i]? = some o) (hg : o.guard = none) (hi : imp i = false) (hq : quietOp P o = true)
    (hv : ∀ k : Value → Prop, k v → opq P o fr h0 k) (H : evH P all imp h0 L p (put fr o.dst v) h) : evH P all imp h0 L (i :: p) fr h := by
  unfold evH gk
  simp only [ho, hg, hi]
  unfold opqc
  rw [hq]
  exact hv _ H
end
end Go.Proofs.YtdielfpgekenkaaGreatDoor.Vm
namespace Go.Proofs.YtdielfpgekenkaaGreatDoor
open Go Vm
set_option maxRecDepth 100000
theorem u8v_inj (l m : List UInt8) : (l.map (fun b => (b.toNat : Int)) = m.map (fun b => (b.toNat : Int))) ↔ l = m := by
  constructor
  · intro h
    refine List.map_inj_right ?_ |>.1 h
    intro a b hab
    exact UInt8.toNat_inj.1 (by exact_mod_cast hab)
  · rintro rfl; rfl
theorem map_u8v (l : List UInt8) : l.map u8v = (l.map (fun b => (b.toNat : Int))).map (Value.int .u8) := by
  rw [List.map_map]; rfl
theorem dig_eq (xo yo : Operand) (l m : List UInt8) (h1 : l.length = 32) (h2 : m.length = 32) (w : World) :
    (do eqGuard .eql 85 xo yo (.agg (l.map u8v).toArray) (.agg (m.map u8v).toArray); binOp .eql 85 (.agg (l.map u8v).toArray) (.agg (m.map u8v).toArray) : Sem Value).run Tryz.prog w = .ok (.bool (decide (l = m))) w := by
  rw [map_u8v, map_u8v, run_eq_ints (P := Tryz.prog) (t := 85) (e := 5) (n := 32) rfl rfl (by kernel_rfl) (i := Tryz.prog.types[5]) rfl (by kernel_rfl) (by kernel_rfl) xo yo _ _ (by simpa using h1) (by simpa using h2) w]
  simp only [u8v_inj]
theorem dig_ne (xo yo : Operand) (l m : List UInt8) (h1 : l.length = 32) (h2 : m.length = 32) (w : World) :
    (do eqGuard .neq 85 xo yo (.agg (l.map u8v).toArray) (.agg (m.map u8v).toArray); binOp .neq 85 (.agg (l.map u8v).toArray) (.agg (m.map u8v).toArray) : Sem Value).run Tryz.prog w = .ok (.bool (!decide (l = m))) w := by
  rw [map_u8v, map_u8v, run_ne_ints (P := Tryz.prog) (t := 85) (e := 5) (n := 32) rfl rfl (by kernel_rfl) (i := Tryz.prog.types[5]) rfl (by kernel_rfl) (by kernel_rfl) xo yo _ _ (by simpa using h1) (by simpa using h2) w]
  simp only [u8v_inj]
theorem RD.at {D : Nat → Prop} {h : Heap} {b n : Nat} {l : List UInt8} (hr : rdN h b 0 (l.map u8v)) (hl : l.length = n) (hm : n ≤ maxLen) (hb : D b) : RD D h (.slice (some ⟨b, 0, none⟩) n n) l := by
  subst hl
  exact ⟨⟨by simp, .inr ⟨_, _, rfl, Nat.le_refl _, hm, rdA_plain.2 hr⟩⟩, fun _ c hc => by rw [ob_slice] at hc; exact hc ▸ hb⟩
theorem RD.nil {D : Nat → Prop} {h : Heap} : RD D h (.slice none 0 0) [] := ⟨⟨by simp, .inl ⟨rfl, rfl⟩⟩, fun e => absurd rfl e⟩
theorem PD.empty {D : Nat → Prop} {h : Heap} : PD D h (.slice none 0 0) [] [] := ⟨⟨by simp, .inl ⟨rfl, rfl⟩⟩, fun e => absurd rfl e, fun i m hi => by simp at hi⟩
theorem PD.one {D : Nat → Prop} {h : Heap} {b : Nat} {v : Value} {m : List UInt8} {t : TypeId} (hr : Blk h b [v] t) (hb : D b) (hv : RD D h v m) : PD D h (.slice (some ⟨b, 0, none⟩) 1 1) [m] [v] := by
  refine ⟨⟨rfl, .inr ⟨_, 1, rfl, Nat.le_refl _, by decide, rdA_plain.2 hr.all⟩⟩, fun _ c hc => by rw [ob_slice] at hc; exact hc ▸ hb, ?_⟩
  intro i m' hi
  match i, hi with
  | 0, hi => simp at hi; exact ⟨v, rfl, hi ▸ hv⟩
theorem PD.two {D : Nat → Prop} {h : Heap} {b : Nat} {v w : Value} {m n : List UInt8} {t : TypeId} (hr : Blk h b [v, w] t) (hb : D b) (hv : RD D h v m) (hw : RD D h w n) : PD D h (.slice (some ⟨b, 0, none⟩) 2 2) [m, n] [v, w] := by
  refine ⟨⟨rfl, .inr ⟨_, 2, rfl, Nat.le_refl _, by decide, rdA_plain.2 hr.all⟩⟩, fun _ c hc => by rw [ob_slice] at hc; exact hc ▸ hb, ?_⟩
  intro i m' hi
  match i, hi with
  | 0, hi => simp at hi; exact ⟨v, rfl, hi ▸ hv⟩
  | 1, hi => simp at hi; exact ⟨w, rfl, hi ▸ hw⟩
theorem PD.three {D : Nat → Prop} {h : Heap} {b : Nat} {v w u : Value} {m n k : List UInt8} {t : TypeId} (hr : Blk h b [v, w, u] t) (hb : D b) (hv : RD D h v m) (hw : RD D h w n) (hu : RD D h u k) : PD D h (.slice (some ⟨b, 0, none⟩) 3 3) [m, n, k] [v, w, u] := by
  refine ⟨⟨rfl, .inr ⟨_, 3, rfl, Nat.le_refl _, by decide, rdA_plain.2 hr.all⟩⟩, fun _ c hc => by rw [ob_slice] at hc; exact hc ▸ hb, ?_⟩
  intro i m' hi
  match i, hi with
  | 0, hi => simp at hi; exact ⟨v, rfl, hi ▸ hv⟩
  | 1, hi => simp at hi; exact ⟨w, rfl, hi ▸ hw⟩
  | 2, hi => simp at hi; exact ⟨u, rfl, hi ▸ hu⟩
theorem Marked.chg {h h' : Heap} {b : Nat} {l : List Value} (m : Marked h h' b l) : Chg (fun c => c = b) h h' := ⟨by rw [m.size]; exact Nat.le_refl _, fun c _ hc => m.block c hc⟩
end Go.Proofs.YtdielfpgekenkaaGreatDoor
namespace Go.Proofs.YtdielfpgekenkaaGreatDoor
open Go Vm
set_option maxRecDepth 100000
theorem RB.more {h h' : Heap} {v : Value} {l : List UInt8} (r : RB h v l) (e : ExtH h h') : RB h' v l := Src.more r e
theorem RB.get {h : Heap} {v : Value} {l : List UInt8} (r : RB h v l) (t : Nat) (hlt : t < l.length) : ∃ b o c, v = .slice (some ⟨b, o, none⟩) l.length c ∧ rd h ⟨b, o + t, none⟩ = some (u8v (l.getD t 0)) := by
  rcases r.cases with ⟨_, rfl⟩ | ⟨A, cap, rfl, hc, hm, hr⟩
  · simp at hlt
  · have hs := hr.spot (by intro e; have := List.map_eq_nil_iff.1 e; subst this; simp at hlt)
    refine ⟨A.block, A.off, cap, by rw [← hs], ?_⟩
    rw [hs, rdA_plain] at hr
    exact hr t _ (map_get u8v l t 0 hlt)
theorem RB.max {h : Heap} {v : Value} {l : List UInt8} (r : RB h v l) : l.length ≤ maxLen := by
  rcases r.cases with ⟨_, rfl⟩ | ⟨A, cap, rfl, hc, hm, hr⟩
  · exact Nat.zero_le _
  · omega
theorem take_succ_eq {l m : List UInt8} {t : Nat} (hl : t < l.length) (hm : t < m.length) (h : l.take t = m.take t) : (l.take (t + 1) = m.take (t + 1)) ↔ l.getD t 0 = m.getD t 0 := by
  have e1 : l.take (t + 1) = l.take t ++ [l[t]] := by rw [List.take_add_one, List.getElem?_eq_getElem hl]; rfl
  have e2 : m.take (t + 1) = m.take t ++ [m[t]] := by rw [List.take_add_one, List.getElem?_eq_getElem hm]; rfl
  rw [e1, e2, h]
  rw [List.getD_eq_getElem?_getD, List.getD_eq_getElem?_getD, List.getElem?_eq_getElem hl, List.getElem?_eq_getElem hm]
  simp only [List.append_cancel_left_eq, List.cons.injEq, and_true, Option.getD_some]
theorem u8_ne (a b : UInt8) : (((a.toNat : Int)) != (b.toNat : Int)) = !decide (a = b) := by
  by_cases h : a = b
  · subst h; simp
  · have : a.toNat ≠ b.toNat := fun e => h (UInt8.toNat_inj.1 e)
    simp [h]
    exact_mod_cast this
theorem eight_take (n t : Nat) (ht : t < 8) : (Sha.eight n).take (t + 1) = (Sha.eight n).take t ++ [UInt8.ofNat (n / 2 ^ (56 - 8 * t))] := by
  have : t = 0 ∨ t = 1 ∨ t = 2 ∨ t = 3 ∨ t = 4 ∨ t = 5 ∨ t = 6 ∨ t = 7 := by omega
  rcases this with rfl | rfl | rfl | rfl | rfl | rfl | rfl | rfl <;> simp [Sha.eight]
/-- a row that was just made, read -/
theorem RB.of_newed {h h' : Heap} {c : Array Value} {l : List UInt8} {k : Nat} (n : Newed h h' (.cells c 5)) (hc : c.toList = l.map u8v) (hk : k = l.length) (hm : l.length ≤ maxLen) : RB h' (.slice (some ⟨h.size, 0, none⟩) k k) l := by
  subst hk
  refine ⟨by simp, .inr ⟨⟨h.size, 0, none⟩, l.length, rfl, Nat.le_refl _, hm, rdA_plain.2 ?_⟩⟩
  rw [← hc]
  exact n.blk.all
theorem reight_fn (n : Nat) (h : Heap) :
    Fx Tryz.prog 573 #[.int .u64 (n : Int)] h fun v' h' => OB h' v' (Sha.eight n) ∧ ExtH h h' ∧ ∀ b, ob v' b → h.size ≤ b := by
  refine fn_of 18 Tryz.func573 rfl (by kernel_rfl) rfl (by simp) ?_
  refine cw_seq (cw_region rfl ?_)
  refine cw_seq (cw_region rfl ?_)
  refine cw_seq (cw_seq (cw_region rfl ?_))
  conv => whnf
  refine cw_block ?_
  refine cw_loop (S := Nat × Value) (fun s => [(0, .int .u64 (n : Int)), (3, s.2), (4, .int .i64 (56 - 8 * (s.1 : Int)))])
    (fun s h' => s.1 ≤ 8 ∧ OB h' s.2 ((Sha.eight n).take s.1) ∧ ExtH h h' ∧ ∀ b, ob s.2 b → h.size ≤ b) (fun s => 8 - s.1) (0, .slice none 0 0) ⟨rfl, rfl, rfl, trivial⟩ ⟨by simp, OB.nil h, ExtH.refl h, fun b hb => (ob_nil hb).elim⟩ ?_
  rintro ⟨t, v⟩ h1 ⟨ht, o1, x1, f1⟩
  simp only [] at ht o1 f1
  refine cw_seq (cw_seq (cw_region rfl ?_))
  conv => whnf
  by_cases hlt : t < 8
  · refine cw_yes rfl (by show (0 : Int) ≤ _; omega) (cw_skip ?_)
    refine cw_seq (cw_block (cw_region rfl ?_))
    conv => whnf
    have e1 := u64_in (56 - 8 * (t : Int)) (56 - 8 * t) (by omega) (by omega)
    refine ⟨by rw [e1]; omega, ?_⟩
    conv => whnf
    refine ⟨_, rfl, #[.int .u8 (IntKind.u8.wrap ((n : Int) / 2 ^ min (IntKind.u64.wrap (56 - 8 * (t : Int))).toNat 64))], 5, fun w => by kernel_rfl, ?_⟩
    have e2 : Value.int .u8 (IntKind.u8.wrap ((n : Int) / 2 ^ min (IntKind.u64.wrap (56 - 8 * (t : Int))).toNat 64)) = u8v (UInt8.ofNat (n / 2 ^ (56 - 8 * t))) := by
      rw [e1, show min (((56 - 8 * t : Nat) : Int)).toNat 64 = 56 - 8 * t by omega, show (n : Int) / 2 ^ (56 - 8 * t) = ((n / 2 ^ (56 - 8 * t) : Nat) : Int) by simp, wrap8_nat]
      rfl
    intro h2 n2
    have r2 : RB h2 (.slice (some ⟨h1.size, 0, none⟩) 1 1) [UInt8.ofNat (n / 2 ^ (56 - 8 * t))] := RB.of_newed n2 (by simp [e2]) rfl (by show 1 ≤ maxLen; decide)
    have x2 := n2.ext
    conv => whnf
    have hl8 := Sha.eight_length n
    refine ⟨_, rfl, _, append_bytes (ty := 170) (OwnS.more o1 x2) r2 (by simp; omega), ?_⟩
    rintro v3 h3 ⟨o3, c3, f3⟩
    have z1 := x1.size; have z2 := n2.size; have z3 := c3.size
    refine cw_region rfl ?_
    refine ⟨(t + 1, v3), ⟨rfl, rfl, congrArg (fun i => some (Value.int .i64 i)) ?_, trivial⟩, ⟨by show t + 1 ≤ 8; omega, ?_, ?_, ?_⟩, by show 8 - (t + 1) < 8 - t; omega⟩
    · show IntKind.i64.wrap _ = _
      rw [i64_in _ (by omega) (by omega)]
      simp only []
      omega
    · simp only []
      rw [eight_take n t hlt]
      exact o3
    · exact ⟨by omega, fun b hb => by rw [c3.block b (by omega) (fun e => by have := f1 b e; omega), n2.block b (by omega), x1.block b hb]⟩
    · intro b hb
      rcases f3 b hb with e | e
      · exact f1 b e
      · omega
  · refine cw_no rfl (by show ¬ (0 : Int) ≤ _; omega) (cw_exit ?_)
    have t8 : t = 8 := by omega
    subst t8
    refine cw_seq (cw_region rfl ?_)
    refine cw_ret ⟨?_, x1, f1⟩
    exact o1
theorem zeros_step (n k : Nat) (hk : k < Sha.zeros n) : (n + (1 + k) + 8) % 64 ≠ 0 := by unfold Sha.zeros at hk; omega
theorem zeros_end (n : Nat) : (n + (1 + Sha.zeros n) + 8) % 64 = 0 := by unfold Sha.zeros; omega
theorem rpad_no (n : Nat) (hn : 2305843009213693951 < n) (h : Heap) :
    Fx Tryz.prog 486 #[.int .u64 (n : Int)] h fun v' h' => v' = .tuple #[.slice none 0 0, .int .i64 21] ∧ h' = h := by
  refine fn_of 24 Tryz.func486 rfl (by kernel_rfl) rfl (by simp) ?_
  refine cw_seq (cw_region rfl ?_)
  refine cw_seq (cw_seq (cw_region rfl ?_))
  refine cw_yes rfl (by omega) ?_
  refine cw_seq (cw_region rfl ?_)
  exact cw_ret ⟨rfl, rfl⟩
theorem rpad_yes (n : Nat) (hn : n ≤ 2305843009213693951) (h : Heap) :
    Fx Tryz.prog 486 #[.int .u64 (n : Int)] h fun v' h' => ∃ v, v' = .tuple #[v, .int .i64 0] ∧ OB h' v (Sha.pad n) ∧ ExtH h h' ∧ ∀ b, ob v b → h.size ≤ b := by
  refine fn_of 24 Tryz.func486 rfl (by kernel_rfl) rfl (by simp) ?_
  refine cw_seq (cw_region rfl ?_)
  refine cw_seq (cw_seq (cw_region rfl ?_))
  refine cw_no rfl (by omega) (cw_skip ?_)
  refine cw_seq (cw_region rfl ?_)
  conv => whnf
  refine ⟨_, rfl, #[u8v 128], 5, fun w => by kernel_rfl, ?_⟩
  intro h1 n1
  have o1 : OB h1 (.slice (some ⟨h.size, 0, none⟩) 1 1) (128 :: List.replicate 0 0) := OB.of_new (l := [128]) (tl := []) n1 rfl rfl (by decide)
  have hz : Sha.zeros n < 64 := by unfold Sha.zeros; omega
  conv => whnf
  refine cw_seq (cw_block ?_)
  refine cw_loop (S := Nat × Value) (fun s => [(0, .int .u64 (n : Int)), (4, s.2)])
    (fun s h' => s.1 ≤ Sha.zeros n ∧ OB h' s.2 (128 :: List.replicate s.1 0) ∧ ExtH h h' ∧ ∀ b, ob s.2 b → h.size ≤ b) (fun s => Sha.zeros n - s.1) (0, .slice (some ⟨h.size, 0, none⟩) 1 1) ⟨rfl, rfl, trivial⟩
    ⟨Nat.zero_le _, o1, n1.ext, fun b hb => by rw [ob_slice] at hb; omega⟩ ?_
  clear o1 n1 h1
  rintro ⟨t, v⟩ h1 ⟨ht, o1, x1, f1⟩
  simp only [] at ht o1 f1
  obtain ⟨a1, c1, e1⟩ := o1.r.len
  simp only [List.length_cons, List.length_replicate] at e1
  refine cw_seq (cw_seq (cw_region rfl ?_))
  subst e1
  conv => whnf
  refine ⟨by decide, ?_⟩
  have w1 := u64_in ((t + 1 : Nat) : Int) (t + 1) rfl (by omega)
  have w2 := u64_in ((n : Int) + IntKind.u64.wrap ((t + 1 : Nat) : Int)) (n + (t + 1)) (by rw [w1]; omega) (by omega)
  have w3 := u64_in (IntKind.u64.wrap ((n : Int) + IntKind.u64.wrap ((t + 1 : Nat) : Int)) + 8) (n + (t + 1) + 8) (by rw [w2]; omega) (by omega)
  have w4 : (IntKind.u64.wrap (IntKind.u64.wrap ((n : Int) + IntKind.u64.wrap ((t + 1 : Nat) : Int)) + 8)).tmod 64 = (((n + (t + 1) + 8) % 64 : Nat) : Int) := by
    rw [w3, Int.tmod_eq_emod_of_nonneg (by omega)]; omega
  by_cases hlt : t < Sha.zeros n
  · have hs := zeros_step n t hlt
    refine cw_bne_yes rfl (by rw [w4]; omega) (cw_skip ?_)
    refine cw_block (cw_region rfl ?_)
    conv => whnf
    refine ⟨_, rfl, #[u8v 0], 5, fun w => by kernel_rfl, ?_⟩
    intro h2 n2
    have r2 : RB h2 (.slice (some ⟨h1.size, 0, none⟩) 1 1) [0] := RB.of_newed n2 rfl rfl (by decide)
    have x2 := n2.ext
    conv => whnf
    refine ⟨_, rfl, _, append_bytes (ty := 170) (OwnS.more o1 x2) r2 (by simp; omega), ?_⟩
    rintro v3 h3 ⟨o3, c3, f3⟩
    have z1 := x1.size; have z2 := n2.size; have z3 := c3.size
    refine ⟨(t + 1, v3), ⟨rfl, rfl, trivial⟩, ⟨hlt, ?_, ?_, ?_⟩, by show Sha.zeros n - (t + 1) < Sha.zeros n - t; omega⟩
    · simp only []
      rw [List.replicate_succ']
      exact o3
    · exact ⟨by omega, fun b hb => by rw [c3.block b (by omega) (fun e => by have := f1 b e; omega), n2.block b (by omega), x1.block b hb]⟩
    · intro b hb
      rcases f3 b hb with e | e
      · exact f1 b e
      · omega
  · have tz : t = Sha.zeros n := by omega
    subst tz
    have hs := zeros_end n
    refine cw_bne_no rfl (by rw [w4]; omega) (cw_exit ?_)
    refine cw_seq (cw_region rfl ?_)
    have e8 := u64_in (8 * (n : Int)) (8 * n) (by omega) (by omega)
    conv => whnf
    rw [e8]
    refine ⟨_, rfl, _, reight_fn (8 * n) h1, ?_⟩
    rintro v3 h3 ⟨o3, x3, f3⟩
    conv => whnf
    have hl8 := Sha.eight_length (8 * n)
    refine ⟨_, rfl, _, append_bytes (ty := 170) (OwnS.more o1 x3) o3.r (by simp; omega), ?_⟩
    rintro v4 h4 ⟨o4, c4, f4⟩
    have z1 := x1.size; have z3 := x3.size; have z4 := c4.size
    refine cw_ret ⟨v4, rfl, o4, ?_, ?_⟩
    · exact ⟨by omega, fun b hb => by rw [c4.block b (by omega) (fun e => by have := f1 b e; omega), x3.block b (by omega), x1.block b hb]⟩
    · intro b hb
      rcases f4 b hb with e | e
      · exact f1 b e
      · omega
end Go.Proofs.YtdielfpgekenkaaGreatDoor
namespace Go.Proofs.YtdielfpgekenkaaGreatDoor
open Go Vm
set_option maxRecDepth 100000
def bs (l : List UInt8) : ByteArray := ⟨l.toArray⟩
theorem bs_size (l : List UInt8) : (bs l).size = l.length := rfl
theorem bs_toList (l : List UInt8) : (bs l).toList = l := by
  exact ByteArray.toList_mk l
theorem conv_str {src dst e : TypeId} (hs : Tryz.prog.underlying src = some (.slice e)) (he : Tryz.prog.underlying e = some (.int .u8)) (hd : Tryz.prog.underlying dst = some .string) {h : Heap} {v : Value} {l : List UInt8} (r : RB h v l) :
    RunsV Tryz.prog (convert src dst v) h fun u h' => u = .string (bs l) ∧ h' = h := by
  intro w hw
  subst hw
  rcases r.cases with ⟨rfl, rfl⟩ | ⟨A, cap, rfl, hc, hm, hr⟩
  · exact ⟨_, w, run_convert_bytes_nil (P := Tryz.prog) w src e hs he 0 0 dst hd, SameEnv.refl w, rfl, rfl⟩
  · exact ⟨_, w, run_convert_bytes_back (P := Tryz.prog) w src dst e A cap l hs he hd (fun j hj => by
      rw [cell_eq_rd]
      exact hr j _ (by simp [hj, u8v])), SameEnv.refl w, rfl, rfl⟩
theorem say {k : Value → Prop} {p : Prop} [Decidable p] (b : Bool) (hb : decide p = b) (hk : k (.bool b)) : k (.bool (decide p)) := by rw [hb]; exact hk
theorem bs_get (s : List UInt8) (i : Nat) (h : i < s.length) : (bs s)[i]? = some (s.getD i 0) := by
  have hs : i < (bs s).size := h
  rw [getElem?_pos (bs s) i hs]
  congr 1
  rw [List.getD_eq_getElem?_getD, List.getElem?_eq_getElem h]
  rfl
theorem bs_append (a b : List UInt8) : bs a ++ bs b = bs (a ++ b) := by
  apply ByteArray.ext
  show (bs a ++ bs b).data = _
  rw [ByteArray.data_append]
  simp [bs]
end Go.Proofs.YtdielfpgekenkaaGreatDoor
