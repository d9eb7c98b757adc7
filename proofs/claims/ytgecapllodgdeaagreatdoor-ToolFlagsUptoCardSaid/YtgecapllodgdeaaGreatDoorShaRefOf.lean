/-
  The contracts of the document's Sum, Of, Parts.
-/
import Derived.Test.YtgecapllodgdeaaGreatDoorShaRefSt
namespace Go.Proofs.YtgecapllodgdeaaGreatDoor
open Go Vm
set_option maxRecDepth 100000
theorem bytes_get (s : Sha.S8) (j k : Nat) (hj : j < 8) (hk : k < 4) : (Sha.bytes s).getD (4 * j + k) 0 = UInt8.ofNat ((s.list.getD j 0).toNat / 2 ^ (24 - 8 * k)) := by
  have h1 : j = 0 ∨ j = 1 ∨ j = 2 ∨ j = 3 ∨ j = 4 ∨ j = 5 ∨ j = 6 ∨ j = 7 := by omega
  have h2 : k = 0 ∨ k = 1 ∨ k = 2 ∨ k = 3 := by omega
  rcases h1 with rfl | rfl | rfl | rfl | rfl | rfl | rfl | rfl <;> rcases h2 with rfl | rfl | rfl | rfl <;>
    simp [Sha.bytes, Sha.wb, Sha.S8.list]
def ecells32 (l : List UInt8) (t : Nat) : List Value := (l.take t).map u8v ++ List.replicate (32 - t) (u8v 0)
theorem ecells32_set (l : List UInt8) (t : Nat) (ht : t < 32) (hl : l.length = 32) : (ecells32 l t).set t (u8v (l.getD t 0)) = ecells32 l (t + 1) := by
  unfold ecells32
  rw [set_snoc _ _ _ _ _ (by simp; omega) (by omega), List.take_add_one, List.getElem?_eq_getElem (show t < l.length by omega), List.getD_eq_getElem?_getD, List.getElem?_eq_getElem (show t < l.length by omega)]
  rw [show 32 - t - 1 = 32 - (t + 1) by omega]
  simp only [Option.toList_some, List.map_append, List.map_cons, List.map_nil, Option.getD_some]
theorem rsum_fn {h : Heap} {s : Sha.S8} {v : Value} {l : List UInt8} {n : Nat} (T : Tab h) (hb : RB h v l) (hl : l.length ≤ 10000000000000) (hn : n ≤ 2305843009213693951) :
    Fx Tryz.prog 71 #[.agg (stateC s v n).toArray] h fun u h' => u = .agg ((Sha.sum s l n).map u8v).toArray ∧ ExtH h h' := by
  refine fn_of 35 Tryz.func71 rfl (by kernel_rfl) rfl (by simp) ?_
  refine cw_seq (cw_region rfl ?_)
  conv => whnf
  intro h1 n1
  conv => whnf
  intro h2 n2
  have y1 : Blk h2 h.size (stateC s v n) 176 := n2.ext.blk n1.blk
  have y2 : Blk h2 h1.size (List.replicate 32 (u8v 0)) 53 := n2.blk
  have z1 := n1.size; have z2 := n2.size
  have x2 := n1.ext.trans n2.ext
  clear n1 n2
  generalize hh1 : h1.size = b1 at *
  refine cw_seq (cw_region rfl ?_)
  conv => whnf
  refine ⟨_, y1.rd (o := 9) rfl, ?_⟩
  conv => whnf
  refine ⟨_, rfl, _, rpad_yes n hn h2, ?_⟩
  rintro _ h3 ⟨v3, rfl, o3, x3, f3⟩
  have z3 := x3.size
  conv => whnf
  refine cw_seq (cw_region rfl ?_)
  conv => whnf
  refine ⟨_, by rfl, (x3.blk y1).all, ?_⟩
  conv => whnf
  have hpl : (Sha.pad n).length ≤ 72 := by rw [Sha.pad_length]; unfold Sha.zeros; omega
  refine ⟨_, rfl, _, rtaken_fn (T.more (x2.trans x3)) (hb.more (x2.trans x3)) o3.r (by omega) (by omega), ?_⟩
  rintro _ h4 ⟨v4, rfl, o4, x4, f4⟩
  have z4 := x4.size
  obtain ⟨a4, k4, e4⟩ := o4.r.len
  conv => whnf
  refine ⟨_, _, x4.blk (x3.blk y1), ⟨(show (10 : Nat) ≤ 10 by decide), by rfl, stateC_one _ _ _ (by subst e4; rfl)⟩, ?_⟩
  intro h5 w5
  replace w5 := w5.cast (l' := stateC (Sha.feed s (l ++ Sha.pad n)) v4 (n + (Sha.pad n).length)) (by rfl)
  have z5 := w5.size
  have es : Sha.sum s l n = Sha.bytes (Sha.feed s (l ++ Sha.pad n)) := rfl
  rw [es]
  generalize Sha.feed s (l ++ Sha.pad n) = S at *
  generalize n + (Sha.pad n).length = N at *
  have y5 := w5.new
  have y52 : Blk h5 b1 (List.replicate 32 (u8v 0)) 53 := w5.blk (x4.blk (x3.blk y2)) (by omega)
  have x5 : ExtH h h5 := ⟨by omega, fun b hb => by rw [w5.block b (by omega), x4.block b (by omega), x3.block b (by omega), x2.block b hb]⟩
  clear w5 o4 o3 es y1 y2 e4
  refine cw_seq (cw_region rfl ?_)
  conv => whnf
  intro h6 n6
  have z6 := n6.size
  have y6 : Blk h6 h5.size (ecells32 (Sha.bytes S) 0) 53 := n6.blk
  have y16 := n6.ext.blk y5
  have y26 := n6.ext.blk y52
  have x6 := x5.trans n6.ext
  clear n6 y5 y52 x5
  generalize hh5 : h5.size = b5 at *
  refine cw_seq (cw_seq (cw_region rfl ?_))
  conv => whnf
  refine cw_block ?_
  refine cw_loop (S := Nat) (fun t => [(1, .pointer (some ⟨h.size, 0, none⟩)), (2, .pointer (some ⟨b1, 0, none⟩)), (5, .pointer (some ⟨b5, 0, none⟩)), (6, .int .i64 (t : Int))])
    (fun t h' => t ≤ 32 ∧ Blk h' h.size (stateC S v4 N) 176 ∧ Blk h' b1 (List.replicate 32 (u8v 0)) 53 ∧ Blk h' b5 (ecells32 (Sha.bytes S) t) 53 ∧ ExtH h h') (fun t => 32 - t) 0 ⟨rfl, rfl, rfl, rfl, trivial⟩
    ⟨by omega, y16, y26, y6, x6⟩ ?_
  clear y16 y26 y6 x6 z6 h6
  rintro t h6 ⟨ht, y1, y2, y3, x6⟩
  have z6 := x6.size
  refine cw_seq (cw_seq (cw_region rfl ?_))
  conv => whnf
  by_cases hlt : t < 32
  · refine cw_yes rfl (by omega) (cw_skip ?_)
    obtain ⟨j, k, hj, hk, rfl⟩ : ∃ j k, j < 8 ∧ k < 4 ∧ t = 4 * j + k := ⟨t / 4, t % 4, by omega, by omega, by omega⟩
    have hbg := bytes_get S j k hj hk
    have q1 : IntKind.i64.wrap (((4 * j + k : Nat) : Int).tdiv 4) = (j : Int) := by
      rw [Int.tdiv_eq_ediv_of_nonneg (by omega)]
      exact i64_eq _ j (by omega) (by omega)
    have q2 : ((4 * j + k : Nat) : Int).tmod 4 = (k : Int) := by
      rw [Int.tmod_eq_emod_of_nonneg (by omega)]; omega
    have q3 := i64_eq (8 * (k : Int)) (8 * k) (by omega) (by omega)
    have q4 := i64_eq (24 - ((8 * k : Nat) : Int)) (24 - 8 * k) (by omega) (by omega)
    have q5 := u64_in ((24 - 8 * k : Nat) : Int) (24 - 8 * k) rfl (by omega)
    refine cw_seq (cw_block (cw_region rfl ?_))
    conv => whnf
    refine ⟨by decide, ?_⟩
    conv => whnf
    refine ⟨⟨by omega, by show IntKind.i64.wrap (((4 * j + k : Nat) : Int).tdiv 4) < ((8 : Nat) : Int); omega⟩, ?_⟩
    conv => whnf
    refine ⟨u32v (S.list.getD j 0), y1.rd (o := 0 + (IntKind.i64.wrap (((4 * j + k : Nat) : Int).tdiv 4)).toNat) (by
      rw [q1, show 0 + ((j : Int)).toNat = j by omega]
      have h1 : j = 0 ∨ j = 1 ∨ j = 2 ∨ j = 3 ∨ j = 4 ∨ j = 5 ∨ j = 6 ∨ j = 7 := by omega
      rcases h1 with rfl | rfl | rfl | rfl | rfl | rfl | rfl | rfl <;> rfl), ?_⟩
    conv => whnf
    refine ⟨by decide, ?_⟩
    conv => whnf
    rw [q2, q3, q4, q5]
    refine ⟨by omega, ?_⟩
    conv => whnf
    refine ⟨⟨by omega, by omega⟩, ?_⟩
    conv => whnf
    refine ⟨_, _, y3, by simp [ecells32, Sha.bytes_length]; omega, ?_⟩
    intro h7 w7
    replace w7 := w7.cast (l' := ecells32 (Sha.bytes S) (4 * j + k + 1)) (by
      rw [← ecells32_set (Sha.bytes S) (4 * j + k) hlt rfl, hbg]
      exact congr (congrArg (List.set _) (show 0 + ((4 * j + k : Nat) : Int).toNat = 4 * j + k by omega)) (shr_byte _ _ (24 - 8 * k) _ (by omega) rfl))
    have z7 := w7.size
    refine cw_region rfl ?_
    exact ⟨4 * j + k + 1, ⟨rfl, rfl, rfl, slot_i64 _ _ (by omega) (by omega), trivial⟩, ⟨by omega, w7.blk y1 (by omega), w7.blk y2 (by omega), w7.new, ⟨by omega, fun b hb => by rw [w7.block b (by omega), x6.block b hb]⟩⟩, by omega⟩
  · refine cw_no rfl (by omega) (cw_exit ?_)
    have t32 : t = 32 := by omega
    subst t32
    have e32 : ecells32 (Sha.bytes S) 32 = (Sha.bytes S).map u8v := by
      unfold ecells32
      rw [List.take_of_length_le (by rw [Sha.bytes_length]; omega)]
      simp
    rw [e32] at y3
    refine cw_seq (cw_region rfl ?_)
    conv => whnf
    refine ⟨_, by rfl, y3.all, ?_⟩
    conv => whnf
    refine ⟨_, _, y2, ⟨(show (32 : Nat) ≤ 32 by decide), by rfl, fun x hx => one8 (Sha.bytes S) x (by simpa using hx)⟩, ?_⟩
    intro h7 w7
    replace w7 := w7.cast (l' := (Sha.bytes S).map u8v) (by simp [splice, Sha.bytes_length])
    have z7 := w7.size
    refine cw_ret ?_
    conv => whnf
    refine ⟨_, by rfl, w7.new.all, rfl, ⟨by omega, fun b hb => by rw [w7.block b (by omega), x6.block b hb]⟩⟩
theorem rof_fn {D : Nat → Prop} {h : Heap} {x : Value} {ms : List (List UInt8)} {pv : List Value} (T : Tab h) (hx : PD D h x ms pv) (hms : ms.flatten.length ≤ 10000000000000) :
    Fx Tryz.prog 45 #[x] h fun u h' => u = .agg ((Sha.digest ms.flatten).map u8v).toArray ∧ ExtH h h' := by
  refine fn_of 8 Tryz.func45 rfl (by kernel_rfl) rfl (by simp) ?_
  refine cw_seq (cw_region rfl ?_)
  conv => whnf
  intro h1 n1
  have z1 := n1.size
  have y1 : Blk h1 h.size (List.replicate 32 (u8v 0)) 53 := n1.blk
  have x1 := n1.ext
  clear n1
  refine cw_seq (cw_region rfl ?_)
  conv => whnf
  refine ⟨_, rfl, _, rnew_fn h1, ?_⟩
  rintro _ h2 ⟨rfl, x2⟩
  conv => whnf
  have x02 := x1.trans x2
  refine ⟨_, rfl, _, joined_fn (hx.keep (x02.chg (S := fun _ => False)) (fun _ _ e => e)) (by omega), ?_⟩
  rintro v3 h3 ⟨o3, x3, f3⟩
  obtain ⟨a3, k3, e3⟩ := o3.r.len
  conv => whnf
  have r0 : RB h3 (.slice none 0 0) [] := (RD.nil (D := fun _ => True)).1
  refine ⟨_, rfl, _, rtaken_fn (T.more (x02.trans x3)) r0 o3.r (by rw [List.length_nil]; omega) (by omega), ?_⟩
  rintro _ h4 ⟨v4, rfl, o4, x4, f4⟩
  have hrl := Sha.rest_lt ([] ++ ms.flatten)
  conv => whnf
  refine ⟨_, rfl, _, rsum_fn (T.more ((x02.trans x3).trans x4)) o4.r (by omega) (by omega), ?_⟩
  rintro _ h5 ⟨rfl, x5⟩
  have z2 := x2.size; have z3 := x3.size; have z4 := x4.size; have z5 := x5.size
  conv => whnf
  refine ⟨_, _, x5.blk (x4.blk (x3.blk (x2.blk y1))), ⟨(show (32 : Nat) ≤ 32 by decide), by rfl, fun x hx => one8 _ x (by simpa using hx)⟩, ?_⟩
  intro h6 w6
  replace w6 := w6.cast (l' := (Sha.digest ms.flatten).map u8v) (by simp [splice, Sha.sum_length, Sha.digest])
  have z6 := w6.size
  refine cw_ret ?_
  conv => whnf
  refine ⟨_, by rfl, w6.new.all, rfl, ⟨by omega, fun b hb => by rw [w6.block b (by omega), x5.block b (by omega), x4.block b (by omega), x3.block b (by omega), x02.block b (by omega)]⟩⟩
theorem info24 : (Tryz.prog.info? 33).map (fun i => (i.zero, i.size, i.bytes)) = some (some (.slice none 0 0), 1, 24) := by kernel_rfl
theorem OB.blk {h : Heap} {v : Value} {l : List UInt8} (o : OB h v l) {b : Nat} (hb : ob v b) : ∃ cs, Blk h b cs 5 := by
  rcases o.cases with ⟨rfl, _⟩ | ⟨g, cap, tl, rfl, _, _, hg, _⟩
  · exact (ob_nil hb).elim
  · rw [ob_slice] at hb; subst hb; exact ⟨_, hg⟩
/-- a list of parts of its own -/
structure OwnP (lo : Nat) (h : Heap) (x : Value) (ms : List (List UInt8)) (qv : List Value) : Prop where
  own : OwnS h 33 1 x ms.length qv
  above : ∀ b, ob x b → lo ≤ b
  part : ∀ (i : Nat) (m : List UInt8), ms[i]? = some m → ∃ v, qv[i]? = some v ∧ OB h v m ∧ ∀ b, ob v b → lo ≤ b
theorem OwnP.pd {lo : Nat} {h : Heap} {x : Value} {ms : List (List UInt8)} {qv : List Value} (H : OwnP lo h x ms qv) : PD (fun b => lo ≤ b ∧ b < h.size) h x ms qv :=
  ⟨OwnS.src H.own, fun _ b hb => ⟨H.above b hb, OwnS.lt H.own hb⟩, fun i m hi => by
    obtain ⟨v, h1, h2, h3⟩ := H.part i m hi
    exact ⟨v, h1, h2.r, fun _ b hb => ⟨h3 b hb, OwnS.lt h2 hb⟩⟩⟩
theorem OwnP.more {lo : Nat} {h h' : Heap} {x : Value} {ms : List (List UInt8)} {qv : List Value} (H : OwnP lo h x ms qv) (e : ExtH h h') : OwnP lo h' x ms qv :=
  ⟨OwnS.more H.own e, H.above, fun i m hi => by
    obtain ⟨v, h1, h2, h3⟩ := H.part i m hi
    exact ⟨v, h1, OwnS.more h2 e, h3⟩⟩
end Go.Proofs.YtgecapllodgdeaaGreatDoor
