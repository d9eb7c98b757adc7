/-
  The contracts of the document's New, Copy, taken, joined.
-/
import Derived.Test.YtgecapllodgdeaaGreatDoorShaRefComp
import Derived.Test.YtgecapllodgdeaaGreatDoorShaState
import Derived.Test.YtgecapllodgdeaaGreatDoorShaPre
namespace Go.Proofs.YtgecapllodgdeaaGreatDoor
open Go Vm
set_option maxRecDepth 100000
theorem rbeginning_fn (h : Heap) : Fx Tryz.prog 104 #[] h fun v h' => v = .agg (Sha.H0.list.map u32v).toArray ∧ ExtH h h' := by
  refine fn_of 2 Tryz.func104 rfl (by kernel_rfl) rfl (by simp) ?_
  refine cw_seq (cw_region rfl ?_)
  conv => whnf
  intro h1 n1
  refine cw_seq (cw_region rfl ?_)
  conv => whnf
  refine ⟨_, rfl, (Sha.H0.list.map u32v).toArray, fun w => by kernel_rfl, ?_⟩
  conv => whnf
  refine ⟨_, _, n1.blk, ⟨by decide, by decide, by decide⟩, ?_⟩
  intro h2 w2
  refine cw_ret ?_
  refine ⟨_, ?_, w2.new.all, ?_⟩
  · decide
  refine ⟨?_, ?_⟩
  · rfl
  exact ⟨by rw [w2.size, n1.size]; omega, fun b hb => by rw [w2.block b (by omega), n1.block b hb]⟩
theorem stateC_one (s : Sha.S8) (v : Value) (n : Nat) (hv : v.oneCell' = true) : ∀ x ∈ (stateC s v n).toArray.toList, x.oneCell' = true := by
  intro x hx
  simp only [stateC, List.mem_cons, List.not_mem_nil, or_false] at hx
  rcases hx with rfl | rfl | rfl | rfl | rfl | rfl | rfl | rfl | rfl | rfl <;> first | exact hv | rfl
theorem rnew_fn (h : Heap) : Fx Tryz.prog 73 #[] h fun v h' => v = .agg (stateC Sha.H0 (.slice none 0 0) 0).toArray ∧ ExtH h h' := by
  refine fn_of 3 Tryz.func73 rfl (by kernel_rfl) rfl (by simp) ?_
  refine cw_seq (cw_region rfl ?_)
  conv => whnf
  intro h1 n1
  have y1 : Blk h1 h.size (stateC ⟨0, 0, 0, 0, 0, 0, 0, 0⟩ (.slice none 0 0) 0) 176 := n1.blk
  have z1 := n1.size
  refine cw_seq (cw_region rfl ?_)
  conv => whnf
  refine ⟨_, rfl, _, rbeginning_fn h1, ?_⟩
  rintro _ h2 ⟨rfl, x2⟩
  have z2 := x2.size
  conv => whnf
  refine ⟨_, rfl, (stateC Sha.H0 (.slice none 0 0) 0).toArray, fun w => by kernel_rfl, ?_⟩
  conv => whnf
  refine ⟨_, _, x2.blk y1, ⟨(show (10 : Nat) ≤ 10 by decide), by rfl, stateC_one _ _ _ rfl⟩, ?_⟩
  intro h3 w3
  replace w3 := w3.cast (l' := stateC Sha.H0 (.slice none 0 0) 0) (by rfl)
  have z3 := w3.size
  refine cw_ret ?_
  conv => whnf
  exact ⟨_, by rfl, w3.new.all, rfl, ⟨by omega, fun b hb => by rw [w3.block b (by omega), x2.block b (by omega), n1.block b hb]⟩⟩
theorem copy_fn {h : Heap} {s : Sha.S8} {v : Value} {l : List UInt8} {n : Nat} (hb : RB h v l) (hl : l.length ≤ 140737488355328) :
    Fx Tryz.prog 102 #[.agg (stateC s v n).toArray] h fun u h' => ∃ v', u = .agg (stateC s v' n).toArray ∧ OB h' v' l ∧ ExtH h h' ∧ ∀ b, ob v' b → h.size ≤ b := by
  refine fn_of 11 Tryz.func102 rfl (by kernel_rfl) rfl (by simp) ?_
  refine cw_seq (cw_region rfl ?_)
  conv => whnf
  intro h1 n1
  conv => whnf
  intro h2 n2
  have y1 : Blk h2 h.size (stateC s v n) 176 := n2.ext.blk n1.blk
  have y2 : Blk h2 h1.size (stateC ⟨0, 0, 0, 0, 0, 0, 0, 0⟩ (.slice none 0 0) 0) 176 := n2.blk
  have z1 := n1.size; have z2 := n2.size
  have x2 := n1.ext.trans n2.ext
  clear n1 n2
  generalize hh1 : h1.size = b1 at *
  refine cw_seq (cw_region rfl ?_)
  refine cw_seq (cw_region rfl ?_)
  conv => whnf
  refine ⟨_, y1.rd (o := 8) rfl, ?_⟩
  conv => whnf
  refine ⟨_, rfl, _, append_bytes (ty := 33) (v := .slice none 0 0) (OB.nil h2) (hb.more x2) (by simp; omega), ?_⟩
  rintro v3 h3 ⟨o3, c3, f3⟩
  rw [List.nil_append] at o3
  have x3 : ExtH h2 h3 := c3.ext (fun b hb => (ob_nil hb).elim)
  have z3 := x3.size
  obtain ⟨a3, k3, e3⟩ := o3.r.len
  subst e3
  refine cw_seq (cw_region rfl ?_)
  conv => whnf
  refine ⟨_, _, x3.blk y1, (show (8 : Nat) < 10 by decide), ?_⟩
  intro h4 w4
  generalize hv3 : Value.slice a3 l.length k3 = v3 at *
  replace w4 := w4.cast (l' := stateC s v3 n) rfl
  have z4 := w4.size
  refine cw_seq (cw_region rfl ?_)
  conv => whnf
  refine ⟨_, by rfl, w4.new.all, ?_⟩
  conv => whnf
  refine ⟨_, _, w4.blk (x3.blk y2) (by omega), ⟨(show (10 : Nat) ≤ 10 by decide), by rfl, stateC_one _ _ _ (by subst hv3; rfl)⟩, ?_⟩
  intro h5 w5
  replace w5 := w5.cast (l' := stateC s v3 n) (by rfl)
  have z5 := w5.size
  have fr : ∀ b, ob v3 b → h2.size ≤ b := fun b hb => (f3 b hb).elim (fun e => (ob_nil e).elim) id
  refine cw_ret ?_
  conv => whnf
  refine ⟨_, by rfl, w5.new.all, ?_⟩
  exact ⟨v3, rfl, OwnS.keep (OwnS.keep o3 w4.chg (fun b hb e => by have := fr b hb; omega)) w5.chg (fun b hb e => by have := fr b hb; omega),
    ⟨by omega, fun b hb => by rw [w5.block b (by omega), w4.block b (by omega), x3.block b (by omega), x2.block b hb]⟩, fun b hb => by have := fr b hb; omega⟩
theorem joined_fn {D : Nat → Prop} {h : Heap} {x : Value} {ms : List (List UInt8)} {pv : List Value} (hx : PD D h x ms pv) (hms : ms.flatten.length ≤ 100000000000000) :
    Fx Tryz.prog 74 #[x] h fun u h' => OB h' u ms.flatten ∧ ExtH h h' ∧ ∀ b, ob u b → h.size ≤ b := by
  refine fn_of 18 Tryz.func74 rfl (by kernel_rfl) rfl (by simp) ?_
  obtain ⟨a, c, hfx, hlen⟩ := hx.fix
  have hmax : maxLen < 9223372036854775808 := by decide
  subst hfx
  refine cw_seq (cw_region rfl ?_)
  refine cw_seq (cw_region rfl ?_)
  refine cw_seq (cw_seq (cw_region rfl ?_))
  conv => whnf
  refine cw_block ?_
  refine cw_loop (S := Nat × Value) (fun q => [(0, .slice a ms.length c), (3, q.2), (4, .int .i64 (q.1 : Int))])
    (fun q h' => q.1 ≤ ms.length ∧ OB h' q.2 (upto ms q.1) ∧ ExtH h h' ∧ ∀ b, ob q.2 b → h.size ≤ b) (fun q => ms.length - q.1) (0, .slice none 0 0) ⟨rfl, rfl, rfl, trivial⟩
    ⟨Nat.zero_le _, OB.nil h, ExtH.refl _, fun b hb => (ob_nil hb).elim⟩ ?_
  rintro ⟨t, v⟩ h1 ⟨ht, o1, x1, f1⟩
  simp only [] at ht o1 f1
  refine cw_seq (cw_seq (cw_region rfl ?_))
  conv => whnf
  by_cases hlt : t < ms.length
  · refine cw_yes rfl (by show (t : Int) < (ms.length : Int); omega) (cw_skip ?_)
    have hx1 := hx.keep (x1.chg (S := fun _ => False)) (fun _ _ e => e)
    obtain ⟨b, o, m, u, rfl, hm, hr, hu⟩ := hx1.row t hlt
    have hsucc := upto_succ ms t m hm
    have hle := upto_le ms (t + 1)
    have hle' : (upto ms (t + 1)).length = (upto ms t).length + m.length := by rw [hsucc]; simp
    refine cw_seq (cw_block (cw_region rfl ?_))
    conv => whnf
    refine ⟨⟨by omega, by show (t : Int) < ((ms.length : Nat) : Int); omega⟩, ?_⟩
    conv => whnf
    refine ⟨_, hr, ?_⟩
    conv => whnf
    refine ⟨_, rfl, _, append_bytes (ty := 33) o1 hu.1 (by omega), ?_⟩
    rintro v2 h2 ⟨o2, c2, f2⟩
    rw [← hsucc] at o2
    have z1 := x1.size; have z2 := c2.size
    refine cw_region rfl ?_
    exact ⟨(t + 1, v2), ⟨rfl, rfl, slot_i64 _ _ (by simp only []; omega) (by simp only []; omega), trivial⟩, ⟨hlt, o2, ⟨by omega, fun b hb => by rw [c2.block b (by omega) (fun e => by have := f1 b e; omega), x1.block b hb]⟩,
      fun b hb => (f2 b hb).elim (fun e => f1 b e) (fun e => by omega)⟩, by show ms.length - (t + 1) < ms.length - t; omega⟩
  · refine cw_no rfl (by show ¬ (t : Int) < (ms.length : Int); omega) (cw_exit ?_)
    have tn : t = ms.length := by omega
    subst tn
    rw [upto_all] at o1
    refine cw_seq (cw_region rfl ?_)
    exact cw_ret ⟨o1, x1, f1⟩
theorem rest_drop (l : List UInt8) (h : 64 ≤ l.length) : Sha.rest (l.drop 64) = Sha.rest l := by
  unfold Sha.rest
  rw [List.drop_drop, List.length_drop]
  congr 1
  omega
def bcells (l : List UInt8) (t : Nat) : List Value := (l.take t).map u8v ++ List.replicate (64 - t) (u8v 0)
theorem bcells_set (l : List UInt8) (t : Nat) (ht : t < 64) (hl : 64 ≤ l.length) : (bcells l t).set t (u8v (l.getD t 0)) = bcells l (t + 1) := by
  unfold bcells
  rw [set_snoc _ _ _ _ _ (by simp; omega) (by omega), List.take_add_one, List.getElem?_eq_getElem (show t < l.length by omega), List.getD_eq_getElem?_getD, List.getElem?_eq_getElem (show t < l.length by omega)]
  rw [show 64 - t - 1 = 64 - (t + 1) by omega]
  simp only [Option.toList_some, List.map_append, List.map_cons, List.map_nil, Option.getD_some]
theorem rtaken_fn {h : Heap} {s : Sha.S8} {v x : Value} {l m : List UInt8} {n : Nat} (T : Tab h) (hb : RB h v l) (hx : RB h x m) (hl : l.length + m.length ≤ 100000000000000) (hn : n + m.length < 18446744073709551616) :
    Fx Tryz.prog 72 #[.agg (stateC s v n).toArray, x] h fun u h' => ∃ v', u = .agg (stateC (Sha.feed s (l ++ m)) v' (n + m.length)).toArray ∧ OB h' v' (Sha.rest (l ++ m)) ∧ ExtH h h' ∧ ∀ b, ob v' b → h.size ≤ b := by
  refine fn_of 50 Tryz.func72 rfl (by kernel_rfl) rfl (by simp) ?_
  obtain ⟨xa, xc, hxe⟩ := hx.len
  refine cw_seq (cw_region rfl ?_)
  conv => whnf
  intro h1 n1
  conv => whnf
  intro h2 n2
  have y1 : Blk h2 h.size (stateC s v n) 176 := n2.ext.blk n1.blk
  have y2 : Blk h2 h1.size (stateC ⟨0, 0, 0, 0, 0, 0, 0, 0⟩ (.slice none 0 0) 0) 176 := n2.blk
  have z1 := n1.size; have z2 := n2.size
  have x2 := n1.ext.trans n2.ext
  clear n1 n2
  generalize hh1 : h1.size = b1 at *
  refine cw_seq (cw_region rfl ?_)
  conv => whnf
  refine ⟨_, by rfl, y1.all, ?_⟩
  conv => whnf
  refine ⟨_, rfl, _, copy_fn (hb.more x2) (by omega), ?_⟩
  rintro _ h3 ⟨v3, rfl, o3, x3, f3⟩
  have z3 := x3.size
  conv => whnf
  refine ⟨_, _, x3.blk y1, ⟨(show (10 : Nat) ≤ 10 by decide), by rfl, stateC_one _ _ _ (by obtain ⟨a, k, e⟩ := o3.r.len; subst e; rfl)⟩, ?_⟩
  intro h4 w4
  replace w4 := w4.cast (l' := stateC s v3 n) (by rfl)
  have z4 := w4.size
  have o4 : OB h4 v3 l := OwnS.keep o3 w4.chg (fun b hb e => by have := f3 b hb; omega)
  have x4 : ExtH h h4 := ⟨by omega, fun b hb => by rw [w4.block b (by omega), x3.block b (by omega), x2.block b hb]⟩
  refine cw_seq (cw_region rfl ?_)
  conv => whnf
  refine ⟨_, w4.new.rd (o := 8) rfl, ?_⟩
  conv => whnf
  refine ⟨_, rfl, _, append_bytes (ty := 33) o4 (hx.more x4) (by omega), ?_⟩
  rintro v5 h5 ⟨o5, c5, f5⟩
  have z5 := c5.size
  have np : ¬ ob v3 h.size := fun e => by have := f3 _ e; omega
  have g5 : ∀ b, ob v5 b → h2.size ≤ b := fun b hb => (f5 b hb).elim (fun e => f3 b e) (fun e => by omega)
  obtain ⟨a5, k5, e5⟩ := o5.r.len
  subst e5
  conv => whnf
  refine ⟨_, _, c5.blk w4.new np, (show (8 : Nat) < 10 by decide), ?_⟩
  intro h6 w6
  generalize hv5 : Value.slice a5 (l ++ m).length k5 = v5 at *
  replace w6 := w6.cast (l' := stateC s v5 n) rfl
  have z6 := w6.size
  have o6 : OB h6 v5 (l ++ m) := OwnS.keep o5 w6.chg (fun b hb e => by have := g5 b hb; omega)
  refine cw_seq (cw_region rfl ?_)
  subst hxe
  conv => whnf
  refine ⟨_, w6.new.rd (o := 9) rfl, ?_⟩
  have e1 := u64_in (m.length : Int) m.length rfl (by omega)
  have e2 := u64_in (((n : Nat) : Int) + (m.length : Int)) (n + m.length) (by omega) (by omega)
  conv => whnf
  rw [e1, e2]
  refine ⟨_, _, w6.new, (show (9 : Nat) < 10 by decide), ?_⟩
  intro h7 w7
  replace w7 := w7.cast (l' := stateC s v5 (n + m.length)) rfl
  have z7 := w7.size
  have o7 : OB h7 v5 (l ++ m) := OwnS.keep o6 w7.chg (fun b hb e => by have := g5 b hb; omega)
  have x7 : ExtH h h7 := ⟨by omega, fun b hb => by rw [w7.block b (by omega), w6.block b (by omega), c5.block b (by omega) (fun e => by have := f3 b e; omega), x4.block b hb]⟩
  have y7 := w7.new
  have yr : Blk h7 b1 (stateC ⟨0, 0, 0, 0, 0, 0, 0, 0⟩ (.slice none 0 0) 0) 176 := w7.blk (w6.blk (c5.blk (w4.blk (x3.blk y2) (by omega)) (fun e => by have := f3 _ e; omega)) (by omega)) (by omega)
  have hlm : (l ++ m).length ≤ 100000000000000 := by simpa using hl
  generalize n + m.length = N at *
  generalize l ++ m = lm at *
  clear w4 w6 w7 c5 o3 o4 o5 o6 y1 y2 hv5
  refine cw_seq (cw_block ?_)
  refine cw_loop (S := Sha.S8 × Value × List UInt8) (fun q => [(2, .pointer (some ⟨h.size, 0, none⟩)), (4, .pointer (some ⟨b1, 0, none⟩))])
    (fun q h' => q.2.2.length ≤ lm.length ∧ Sha.feed q.1 q.2.2 = Sha.feed s lm ∧ Sha.rest q.2.2 = Sha.rest lm ∧ Blk h' h.size (stateC q.1 q.2.1 N) 176 ∧ Blk h' b1 (stateC ⟨0, 0, 0, 0, 0, 0, 0, 0⟩ (.slice none 0 0) 0) 176 ∧
      OB h' q.2.1 q.2.2 ∧ ExtH h h' ∧ ∀ b, ob q.2.1 b → h2.size ≤ b) (fun q => q.2.2.length) (s, v5, lm) ⟨rfl, rfl, trivial⟩ ⟨Nat.le_refl _, rfl, rfl, y7, yr, o7, x7, g5⟩ ?_
  clear y7 yr o7 x7 g5 f5 z3 z4 z5 z6 z7 h3 h4 h5 h6 h7 x3 x4 f3 np e1 e2
  rintro ⟨s1, v1, l1⟩ h3 ⟨hle, hf, hr, y1, y2, o1, x3, f1⟩
  simp only [] at hle hf hr y1 y2 o1 f1
  have z3 := x3.size
  have lp := y1.lt
  have lr := y2.lt
  obtain ⟨va, vc, hve⟩ := o1.r.len
  refine cw_seq (cw_seq (cw_region rfl ?_))
  conv => whnf
  refine ⟨_, y1.rd (o := 8) rfl, ?_⟩
  subst hve
  conv => whnf
  by_cases h64 : 64 ≤ l1.length
  · refine cw_yes rfl (by omega) (cw_skip ?_)
    refine cw_block (cw_seq (cw_region rfl ?_))
    conv => whnf
    intro h4 n4
    have z4 := n4.size
    have y4 : Blk h4 h3.size (bcells l1 0) 231 := n4.blk
    have x34 := n4.ext
    clear n4
    refine cw_seq (cw_seq (cw_region rfl ?_))
    conv => whnf
    refine cw_block ?_
    refine cw_loop (S := Nat) (fun t => [(2, .pointer (some ⟨h.size, 0, none⟩)), (4, .pointer (some ⟨b1, 0, none⟩)), (5, .pointer (some ⟨h3.size, 0, none⟩)), (6, .int .i64 (t : Int))])
      (fun t h' => t ≤ 64 ∧ ExtH h3 h' ∧ Blk h' h3.size (bcells l1 t) 231) (fun t => 64 - t) 0 ⟨rfl, rfl, rfl, rfl, trivial⟩ ⟨by omega, x34, y4⟩ ?_
    clear y4 x34 z4 h4
    rintro t h4 ⟨ht, x34, y4⟩
    have z4 := x34.size
    refine cw_seq (cw_seq (cw_region rfl ?_))
    conv => whnf
    by_cases hlt : t < 64
    · refine cw_yes rfl (by omega) (cw_skip ?_)
      obtain ⟨gb, go, gc, hge, hgr⟩ := RB.get (RB.more o1.r x34) t (by omega)
      injection hge with hge _ hgc
      subst hge hgc
      refine cw_seq (cw_block (cw_region rfl ?_))
      conv => whnf
      refine ⟨_, (x34.blk y1).rd (o := 8) rfl, ?_⟩
      conv => whnf
      refine ⟨⟨by omega, by omega⟩, ?_⟩
      conv => whnf
      refine ⟨_, hgr, ?_⟩
      conv => whnf
      refine ⟨⟨by omega, by omega⟩, ?_⟩
      conv => whnf
      refine ⟨_, _, y4, by simp [bcells]; omega, ?_⟩
      intro h5 w5
      replace w5 := w5.cast (l' := bcells l1 (t + 1)) (by
        rw [← bcells_set l1 t hlt h64]
        exact congrArg (fun i => List.set (bcells l1 t) i _) (show 0 + ((t : Int)).toNat = t by omega))
      have z5 := w5.size
      refine cw_region rfl ?_
      exact ⟨t + 1, ⟨rfl, rfl, rfl, slot_i64 _ _ (by omega) (by omega), trivial⟩, ⟨by omega, ⟨by omega, fun b hb => by rw [w5.block b (by omega), x34.block b hb]⟩, w5.new⟩, by omega⟩
    · refine cw_no rfl (by omega) (cw_exit ?_)
      have t64 : t = 64 := by omega
      subst t64
      have e64 : bcells l1 64 = (l1.take 64).map u8v := by simp [bcells]
      rw [e64] at y4
      have l64 : (l1.take 64).length = 64 := by rw [List.length_take]; omega
      have y14 := x34.blk y1
      have y24 := x34.blk y2
      have o4 := OwnS.more o1 x34
      refine cw_seq (cw_region rfl ?_)
      conv => whnf
      refine ⟨s1.list.map u32v, by rfl, y14.rdN 0 _ rfl, ?_⟩
      conv => whnf
      refine ⟨_, Eq.trans (b := 64) (by simp; omega) rfl, y4.all, ?_⟩
      conv => whnf
      refine ⟨_, rfl, _, rcompress_fn s1 (l1.take 64) l64 h4 (T.more (x3.trans x34)), ?_⟩
      rintro _ h5 ⟨rfl, x5⟩
      have z5 := x5.size
      conv => whnf
      refine ⟨_, _, x5.blk y14, ⟨(show (8 : Nat) ≤ 10 by decide), by rfl, by simp [u32v, Value.oneCell', Sha.S8.list]⟩, ?_⟩
      intro h6 w6
      replace w6 := w6.cast (l' := stateC (Sha.compress s1 (l1.take 64)) (.slice va l1.length vc) N) (by rfl)
      have z6 := w6.size
      refine cw_seq (cw_region rfl ?_)
      refine cw_seq (cw_region rfl ?_)
      conv => whnf
      refine ⟨_, w6.new.rd (o := 8) rfl, ?_⟩
      conv => whnf
      have o6 := OwnS.keep (OwnS.more o4 x5) w6.chg (fun b hb e => by have := f1 b hb; omega)
      obtain ⟨g1, A1, hA1, hR1⟩ := RB.cut (OwnS.src o6) 64 l1.length h64 (Nat.le_refl _) (x := ((64 : Nat) : Int)) rfl (y := (l1.length : Int)) rfl
      refine ⟨g1, A1, hA1, ?_⟩
      conv => whnf
      refine ⟨_, rfl, _, append_bytes (ty := 33) (v := .slice none 0 0) (OB.nil h6) hR1 (by simp; omega), ?_⟩
      rintro v7 h7 ⟨o7, c7, f7⟩
      have ed : [] ++ (l1.drop 64).take (l1.length - 64) = l1.drop 64 := by
        rw [List.nil_append, List.take_of_length_le (by simp)]
      rw [ed] at o7
      have x7 : ExtH h6 h7 := c7.ext (fun b hb => (ob_nil hb).elim)
      have z7 := x7.size
      have f7' : ∀ b, ob v7 b → h6.size ≤ b := fun b hb => (f7 b hb).elim (fun e => (ob_nil e).elim) id
      obtain ⟨a7, k7, e7⟩ := o7.r.len
      subst e7
      refine cw_region rfl ?_
      conv => whnf
      refine ⟨_, _, x7.blk w6.new, (show (8 : Nat) < 10 by decide), ?_⟩
      intro h8 w8
      generalize hv7 : Value.slice a7 (l1.drop 64).length k7 = v7 at *
      replace w8 := w8.cast (l' := stateC (Sha.compress s1 (l1.take 64)) v7 N) rfl
      have z8 := w8.size
      refine ⟨(Sha.compress s1 (l1.take 64), v7, l1.drop 64), ⟨rfl, rfl, trivial⟩, ⟨by simp; omega, ?_, ?_, w8.new, ?_, ?_, ?_, ?_⟩, by simp; omega⟩
      · rw [← hf, Sha.feed_block s1 l1 h64]
      · rw [← hr]; exact rest_drop l1 h64
      · exact w8.blk (x7.blk (w6.blk (x5.blk y24) (by omega))) (by omega)
      · exact OwnS.keep o7 w8.chg (fun b hb e => by have := f7' b hb; omega)
      · exact ⟨by omega, fun b hb => by rw [w8.block b (by omega), x7.block b (by omega), w6.block b (by omega), x5.block b (by omega), x34.block b (by omega), x3.block b hb]⟩
      · intro b hb
        have := f7' b hb
        omega
  · refine cw_no rfl (by omega) (cw_exit ?_)
    rw [Sha.feed_lt s1 (by omega)] at hf
    rw [Sha.rest_short (by omega)] at hr
    subst hf hr
    refine cw_seq (cw_region rfl ?_)
    conv => whnf
    refine ⟨_, by rfl, y1.all, ?_⟩
    conv => whnf
    refine ⟨_, _, y2, ⟨(show (10 : Nat) ≤ 10 by decide), by rfl, stateC_one _ _ _ rfl⟩, ?_⟩
    intro h4 w4
    have z4 := w4.size
    replace w4 := w4.cast (l' := stateC (Sha.feed s lm) (.slice va (Sha.rest lm).length vc) N) (by rfl)
    refine cw_ret ?_
    conv => whnf
    refine ⟨_, by rfl, w4.new.all, ?_⟩
    exact ⟨_, rfl, OwnS.keep o1 w4.chg (fun b hb e => by have := f1 b hb; omega), ⟨by omega, fun b hb => by rw [w4.block b (by omega), x3.block b hb]⟩, fun b hb => by have := f1 b hb; omega⟩
end Go.Proofs.YtgecapllodgdeaaGreatDoor
