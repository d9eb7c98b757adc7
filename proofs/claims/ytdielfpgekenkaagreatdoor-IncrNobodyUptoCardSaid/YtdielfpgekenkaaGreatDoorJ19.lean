/-
  The contracts of the document's Sum, Of, Parts.
  The contracts of the document's Preimage and of both Tagged.
  Digests with tags, and those of the document, as the evaluator does them.
-/
import Derived.Test.YtdielfpgekenkaaGreatDoorJ18
import Derived.Test.YtdielfpgekenkaaGreatDoorJ17
namespace Go.Proofs.YtdielfpgekenkaaGreatDoor
open Go Vm
set_option maxRecDepth 100000
theorem bytes_get (s : Sha.S8) (j k : Nat) (hj : j < 8) (hk : k < 4) : (Sha.bytes s).getD (4 * j + k) 0 = UInt8.ofNat ((s.list.getD j 0).toNat / 2 ^ (24 - 8 * k)) := by
  have h1 : j = 0 ∨ j = 1 ∨ j = 2 ∨ j = 3 ∨ j = 4 ∨ j = 5 ∨ j = 6 ∨ j = 7 := by omega
  have h2 : k = 0 ∨ k = 1 ∨ k = 2 ∨ k = 3 := by omega
  rcases h1 with rfl | rfl | rfl | rfl | rfl | rfl | rfl | rfl <;> rcases h2 with rfl | rfl | rfl | rfl <;>
    simp [Sha.bytes, Sha.wb, Sha.S8.list]
def ecells32 (l : List UInt8) (t : Nat) : List Value := (l.take t).map u8v ++ List.replicate (32 - t) (u8v 0)
theorem ecells32_set (l : List UInt8) (t : Nat) (ht : t < 32) (hl : l.length = 32) : (ecells32 l t).set t (u8v (l.getD t 0)) = ecells32 l (t + 1) := by
  unfold ecells32
  rw [set_snoc _ _ _ _ _ (by simp; omega) (by omega), List.take_add_one, List.getElem?_eq_getElem (show t < l.length by omega), List.getD_eq_getElem?_getD, List.getElem?_eq_getElem (show t < l.length by omega)]
  rw [show 32 - t - 1 = 32 - (t + 1) by omega]
  simp only [Option.toList_some, List.map_append, List.map_cons, List.map_nil, Option.getD_some]
theorem rsum_fn {h : Heap} {s : Sha.S8} {v : Value} {l : List UInt8} {n : Nat} (T : Tab h) (hb : RB h v l) (hl : l.length ≤ 10000000000000) (hn : n ≤ 2305843009213693951) :
    Fx Tryz.prog 384 #[.agg (stateC s v n).toArray] h fun u h' => u = .agg ((Sha.sum s l n).map u8v).toArray ∧ ExtH h h' := by
  refine fn_of 35 Tryz.func384 rfl (by kernel_rfl) rfl (by simp) ?_
  refine cw_seq (cw_region rfl ?_)
  conv => whnf
  intro h1 n1
  conv => whnf
  intro h2 n2
  have y1 : Blk h2 h.size (stateC s v n) 600 := n2.ext.blk n1.blk
  have y2 : Blk h2 h1.size (List.replicate 32 (u8v 0)) 85 := n2.blk
  have z1 := n1.size; have z2 := n2.size
  have x2 := n1.ext.trans n2.ext
  clear n1 n2
  generalize hh1 : h1.size = b1 at *
  refine cw_seq (cw_region rfl ?_)
  conv => whnf
  refine ⟨_, y1.rd (o := 9) rfl, ?_⟩
  conv => whnf
  refine ⟨_, rfl, _, rpad_yes n hn h2, ?_⟩
  rintro _ h3 ⟨v3, rfl, o3, x3, f3⟩
  have z3 := x3.size
  conv => whnf
  refine cw_seq (cw_region rfl ?_)
  conv => whnf
  refine ⟨_, by rfl, (x3.blk y1).all, ?_⟩
  conv => whnf
  have hpl : (Sha.pad n).length ≤ 72 := by rw [Sha.pad_length]; unfold Sha.zeros; omega
  refine ⟨_, rfl, _, rtaken_fn (T.more (x2.trans x3)) (hb.more (x2.trans x3)) o3.r (by omega) (by omega), ?_⟩
  rintro _ h4 ⟨v4, rfl, o4, x4, f4⟩
  have z4 := x4.size
  obtain ⟨a4, k4, e4⟩ := o4.r.len
  conv => whnf
  refine ⟨_, _, x4.blk (x3.blk y1), ⟨(show (10 : Nat) ≤ 10 by decide), by rfl, stateC_one _ _ _ (by subst e4; rfl)⟩, ?_⟩
  intro h5 w5
  replace w5 := w5.cast (l' := stateC (Sha.feed s (l ++ Sha.pad n)) v4 (n + (Sha.pad n).length)) (by rfl)
  have z5 := w5.size
  have es : Sha.sum s l n = Sha.bytes (Sha.feed s (l ++ Sha.pad n)) := rfl
  rw [es]
  generalize Sha.feed s (l ++ Sha.pad n) = S at *
  generalize n + (Sha.pad n).length = N at *
  have y5 := w5.new
  have y52 : Blk h5 b1 (List.replicate 32 (u8v 0)) 85 := w5.blk (x4.blk (x3.blk y2)) (by omega)
  have x5 : ExtH h h5 := ⟨by omega, fun b hb => by rw [w5.block b (by omega), x4.block b (by omega), x3.block b (by omega), x2.block b hb]⟩
  clear w5 o4 o3 es y1 y2 e4
  refine cw_seq (cw_region rfl ?_)
  conv => whnf
  intro h6 n6
  have z6 := n6.size
  have y6 : Blk h6 h5.size (ecells32 (Sha.bytes S) 0) 85 := n6.blk
  have y16 := n6.ext.blk y5
  have y26 := n6.ext.blk y52
  have x6 := x5.trans n6.ext
  clear n6 y5 y52 x5
  generalize hh5 : h5.size = b5 at *
  refine cw_seq (cw_seq (cw_region rfl ?_))
  conv => whnf
  refine cw_block ?_
  refine cw_loop (S := Nat) (fun t => [(1, .pointer (some ⟨h.size, 0, none⟩)), (2, .pointer (some ⟨b1, 0, none⟩)), (5, .pointer (some ⟨b5, 0, none⟩)), (6, .int .i64 (t : Int))])
    (fun t h' => t ≤ 32 ∧ Blk h' h.size (stateC S v4 N) 600 ∧ Blk h' b1 (List.replicate 32 (u8v 0)) 85 ∧ Blk h' b5 (ecells32 (Sha.bytes S) t) 85 ∧ ExtH h h') (fun t => 32 - t) 0 ⟨rfl, rfl, rfl, rfl, trivial⟩
    ⟨by omega, y16, y26, y6, x6⟩ ?_
  clear y16 y26 y6 x6 z6 h6
  rintro t h6 ⟨ht, y1, y2, y3, x6⟩
  have z6 := x6.size
  refine cw_seq (cw_seq (cw_region rfl ?_))
  conv => whnf
  by_cases hlt : t < 32
  · refine cw_yes rfl (by omega) (cw_skip ?_)
    obtain ⟨j, k, hj, hk, rfl⟩ : ∃ j k, j < 8 ∧ k < 4 ∧ t = 4 * j + k := ⟨t / 4, t % 4, by omega, by omega, by omega⟩
    have hbg := bytes_get S j k hj hk
    have q1 : IntKind.i64.wrap (((4 * j + k : Nat) : Int).tdiv 4) = (j : Int) := by
      rw [Int.tdiv_eq_ediv_of_nonneg (by omega)]
      exact i64_eq _ j (by omega) (by omega)
    have q2 : ((4 * j + k : Nat) : Int).tmod 4 = (k : Int) := by
      rw [Int.tmod_eq_emod_of_nonneg (by omega)]; omega
    have q3 := i64_eq (8 * (k : Int)) (8 * k) (by omega) (by omega)
    have q4 := i64_eq (24 - ((8 * k : Nat) : Int)) (24 - 8 * k) (by omega) (by omega)
    have q5 := u64_in ((24 - 8 * k : Nat) : Int) (24 - 8 * k) rfl (by omega)
    refine cw_seq (cw_block (cw_region rfl ?_))
    conv => whnf
    refine ⟨by decide, ?_⟩
    conv => whnf
    refine ⟨⟨by omega, by show IntKind.i64.wrap (((4 * j + k : Nat) : Int).tdiv 4) < ((8 : Nat) : Int); omega⟩, ?_⟩
    conv => whnf
    refine ⟨u32v (S.list.getD j 0), y1.rd (o := 0 + (IntKind.i64.wrap (((4 * j + k : Nat) : Int).tdiv 4)).toNat) (by
      rw [q1, show 0 + ((j : Int)).toNat = j by omega]
      have h1 : j = 0 ∨ j = 1 ∨ j = 2 ∨ j = 3 ∨ j = 4 ∨ j = 5 ∨ j = 6 ∨ j = 7 := by omega
      rcases h1 with rfl | rfl | rfl | rfl | rfl | rfl | rfl | rfl <;> rfl), ?_⟩
    conv => whnf
    refine ⟨by decide, ?_⟩
    conv => whnf
    rw [q2, q3, q4, q5]
    refine ⟨by omega, ?_⟩
    conv => whnf
    refine ⟨⟨by omega, by omega⟩, ?_⟩
    conv => whnf
    refine ⟨_, _, y3, by simp [ecells32, Sha.bytes_length]; omega, ?_⟩
    intro h7 w7
    replace w7 := w7.cast (l' := ecells32 (Sha.bytes S) (4 * j + k + 1)) (by
      rw [← ecells32_set (Sha.bytes S) (4 * j + k) hlt rfl, hbg]
      exact congr (congrArg (List.set _) (show 0 + ((4 * j + k : Nat) : Int).toNat = 4 * j + k by omega)) (shr_byte _ _ (24 - 8 * k) _ (by omega) rfl))
    have z7 := w7.size
    refine cw_region rfl ?_
    exact ⟨4 * j + k + 1, ⟨rfl, rfl, rfl, slot_i64 _ _ (by omega) (by omega), trivial⟩, ⟨by omega, w7.blk y1 (by omega), w7.blk y2 (by omega), w7.new, ⟨by omega, fun b hb => by rw [w7.block b (by omega), x6.block b hb]⟩⟩, by omega⟩
  · refine cw_no rfl (by omega) (cw_exit ?_)
    have t32 : t = 32 := by omega
    subst t32
    have e32 : ecells32 (Sha.bytes S) 32 = (Sha.bytes S).map u8v := by
      unfold ecells32
      rw [List.take_of_length_le (by rw [Sha.bytes_length]; omega)]
      simp
    rw [e32] at y3
    refine cw_seq (cw_region rfl ?_)
    conv => whnf
    refine ⟨_, by rfl, y3.all, ?_⟩
    conv => whnf
    refine ⟨_, _, y2, ⟨(show (32 : Nat) ≤ 32 by decide), by rfl, fun x hx => one8 (Sha.bytes S) x (by simpa using hx)⟩, ?_⟩
    intro h7 w7
    replace w7 := w7.cast (l' := (Sha.bytes S).map u8v) (by simp [splice, Sha.bytes_length])
    have z7 := w7.size
    refine cw_ret ?_
    conv => whnf
    refine ⟨_, by rfl, w7.new.all, rfl, ⟨by omega, fun b hb => by rw [w7.block b (by omega), x6.block b hb]⟩⟩
theorem rof_fn {D : Nat → Prop} {h : Heap} {x : Value} {ms : List (List UInt8)} {pv : List Value} (T : Tab h) (hx : PD D h x ms pv) (hms : ms.flatten.length ≤ 10000000000000) :
    Fx Tryz.prog 264 #[x] h fun u h' => u = .agg ((Sha.digest ms.flatten).map u8v).toArray ∧ ExtH h h' := by
  refine fn_of 8 Tryz.func264 rfl (by kernel_rfl) rfl (by simp) ?_
  refine cw_seq (cw_region rfl ?_)
  conv => whnf
  intro h1 n1
  have z1 := n1.size
  have y1 : Blk h1 h.size (List.replicate 32 (u8v 0)) 85 := n1.blk
  have x1 := n1.ext
  clear n1
  refine cw_seq (cw_region rfl ?_)
  conv => whnf
  refine ⟨_, rfl, _, rnew_fn h1, ?_⟩
  rintro _ h2 ⟨rfl, x2⟩
  conv => whnf
  have x02 := x1.trans x2
  refine ⟨_, rfl, _, joined_fn (hx.keep (x02.chg (S := fun _ => False)) (fun _ _ e => e)) (by omega), ?_⟩
  rintro v3 h3 ⟨o3, x3, f3⟩
  obtain ⟨a3, k3, e3⟩ := o3.r.len
  conv => whnf
  have r0 : RB h3 (.slice none 0 0) [] := (RD.nil (D := fun _ => True)).1
  refine ⟨_, rfl, _, rtaken_fn (T.more (x02.trans x3)) r0 o3.r (by rw [List.length_nil]; omega) (by omega), ?_⟩
  rintro _ h4 ⟨v4, rfl, o4, x4, f4⟩
  have hrl := Sha.rest_lt ([] ++ ms.flatten)
  conv => whnf
  refine ⟨_, rfl, _, rsum_fn (T.more ((x02.trans x3).trans x4)) o4.r (by omega) (by omega), ?_⟩
  rintro _ h5 ⟨rfl, x5⟩
  have z2 := x2.size; have z3 := x3.size; have z4 := x4.size; have z5 := x5.size
  conv => whnf
  refine ⟨_, _, x5.blk (x4.blk (x3.blk (x2.blk y1))), ⟨(show (32 : Nat) ≤ 32 by decide), by rfl, fun x hx => one8 _ x (by simpa using hx)⟩, ?_⟩
  intro h6 w6
  replace w6 := w6.cast (l' := (Sha.digest ms.flatten).map u8v) (by simp [splice, Sha.sum_length, Sha.digest])
  have z6 := w6.size
  refine cw_ret ?_
  conv => whnf
  refine ⟨_, by rfl, w6.new.all, rfl, ⟨by omega, fun b hb => by rw [w6.block b (by omega), x5.block b (by omega), x4.block b (by omega), x3.block b (by omega), x02.block b (by omega)]⟩⟩
theorem info24 : (Tryz.prog.info? 170).map (fun i => (i.zero, i.size, i.bytes)) = some (some (.slice none 0 0), 1, 24) := by kernel_rfl
theorem OB.blk {h : Heap} {v : Value} {l : List UInt8} (o : OB h v l) {b : Nat} (hb : ob v b) : ∃ cs, Blk h b cs 5 := by
  rcases o.cases with ⟨rfl, _⟩ | ⟨g, cap, tl, rfl, _, _, hg, _⟩
  · exact (ob_nil hb).elim
  · rw [ob_slice] at hb; subst hb; exact ⟨_, hg⟩
/-- a list of parts of its own -/
structure OwnP (lo : Nat) (h : Heap) (x : Value) (ms : List (List UInt8)) (qv : List Value) : Prop where
  own : OwnS h 170 1 x ms.length qv
  above : ∀ b, ob x b → lo ≤ b
  part : ∀ (i : Nat) (m : List UInt8), ms[i]? = some m → ∃ v, qv[i]? = some v ∧ OB h v m ∧ ∀ b, ob v b → lo ≤ b
theorem OwnP.pd {lo : Nat} {h : Heap} {x : Value} {ms : List (List UInt8)} {qv : List Value} (H : OwnP lo h x ms qv) : PD (fun b => lo ≤ b ∧ b < h.size) h x ms qv :=
  ⟨OwnS.src H.own, fun _ b hb => ⟨H.above b hb, OwnS.lt H.own hb⟩, fun i m hi => by
    obtain ⟨v, h1, h2, h3⟩ := H.part i m hi
    exact ⟨v, h1, h2.r, fun _ b hb => ⟨h3 b hb, OwnS.lt h2 hb⟩⟩⟩
theorem OwnP.more {lo : Nat} {h h' : Heap} {x : Value} {ms : List (List UInt8)} {qv : List Value} (H : OwnP lo h x ms qv) (e : ExtH h h') : OwnP lo h' x ms qv :=
  ⟨OwnS.more H.own e, H.above, fun i m hi => by
    obtain ⟨v, h1, h2, h3⟩ := H.part i m hi
    exact ⟨v, h1, OwnS.more h2 e, h3⟩⟩
end Go.Proofs.YtdielfpgekenkaaGreatDoor
namespace Go.Proofs.YtdielfpgekenkaaGreatDoor.Sha
def tagErr (s : List UInt8) : Int := if isTag s = true then 0 else 22
def preOf (s : List UInt8) (ms : List (List UInt8)) : List UInt8 := if isTag s = true then pre s ms else []
def tagDig (s : List UInt8) (ms : List (List UInt8)) : List UInt8 := if isTag s = true then digest (pre s ms) else List.replicate 32 0
theorem tagDig_length (s : List UInt8) (ms : List (List UInt8)) : (tagDig s ms).length = 32 := by
  unfold tagDig
  split
  · rfl
  · simp
theorem preOf_le (s : List UInt8) (ms : List (List UInt8)) : (preOf s ms).length ≤ 1 + s.length + 8 * ms.length + ms.flatten.length := by
  unfold preOf
  split
  · have := accP_le s ms ms.length
    unfold accP at this
    rwa [List.take_length] at this
  · simp
end Go.Proofs.YtdielfpgekenkaaGreatDoor.Sha
namespace Go.Proofs.YtdielfpgekenkaaGreatDoor
open Go Vm
set_option maxRecDepth 100000
set_option linter.unusedVariables false
set_option linter.unusedSimpArgs false
theorem rpreimage_no {s : List UInt8} {x : Value} (hs : s.length ≤ maxLen) (hT : Sha.isTag s = false) : FxP Tryz.prog 493 #[.string (bs s), x] (.tuple #[.slice none 0 0, .int .i64 22]) := by
  intro h
  refine fn_of 39 Tryz.func493 rfl (by kernel_rfl) rfl (by simp) ?_
  refine cw_seq (cw_region rfl ?_)
  refine cw_seq (cw_seq (cw_region rfl ?_))
  conv => whnf
  refine ⟨_, rfl, _, rtag_fn s hs h, ?_⟩
  rw [hT]
  rintro _ h0 ⟨rfl, e⟩
  subst h0
  conv => whnf
  refine cw_true rfl (cw_seq (cw_region rfl ?_))
  exact cw_ret ⟨rfl, rfl⟩
theorem rpreimage_fn {D : Nat → Prop} {h : Heap} {s : List UInt8} {x : Value} {ms : List (List UInt8)} {pv : List Value} (hx : PD D h x ms pv) (hD : ∀ b, D b → b < h.size) (hT : Sha.isTag s = true)
    (hms : ms.flatten.length + ms.length ≤ 1000000000000) :
    Fx Tryz.prog 493 #[.string (bs s), x] h fun u h' => ∃ v', u = .tuple #[v', .int .i64 0] ∧ OB h' v' (Sha.pre s ms) ∧ ExtH h h' ∧ ∀ b, ob v' b → h.size ≤ b := by
  refine fn_of 39 Tryz.func493 rfl (by kernel_rfl) rfl (by simp) ?_
  obtain ⟨hs1, hs2⟩ := Sha.isTag_len hT
  refine cw_seq (cw_region rfl ?_)
  refine cw_seq (cw_seq (cw_region rfl ?_))
  conv => whnf
  refine ⟨_, rfl, _, rtag_fn s (by simp only [maxLen]; omega) h, ?_⟩
  rw [hT]
  rintro _ h0 ⟨rfl, e⟩
  subst h0
  conv => whnf
  refine cw_false rfl (cw_skip ?_)
  refine cw_seq (cw_region rfl ?_)
  conv => whnf
  have ew : Value.int .u8 (IntKind.u8.wrap (s.length : Int)) = u8v (UInt8.ofNat s.length) := congrArg (Value.int .u8) (wrap8_nat s.length)
  refine ⟨_, rfl, #[u8v (UInt8.ofNat s.length)], 5, fun w => (congrArg (fun v => (Instr.buildSlice 170 1 #[(0, v)]).run Tryz.prog w) ew).trans (by kernel_rfl), ?_⟩
  intro h1 n1
  conv => whnf
  refine ⟨_, rfl, _, append_str (ty := 170) n1.blk hs1 hs2, ?_⟩
  rintro v2 h2 ⟨o2, x2, f2⟩
  have z1 := n1.size; have z2 := x2.size
  have x02 := n1.ext.trans x2
  replace o2 : OB h2 v2 (accP s ms 0) := by
    have : accP s ms 0 = UInt8.ofNat s.length :: s := by simp [accP, Sha.pre, Sha.encP]
    rw [this]; exact o2
  replace f2 : ∀ b, ob v2 b → h.size ≤ b := fun b hb => by have := f2 b hb; omega
  clear n1
  obtain ⟨a, c, hfx, hlen⟩ := hx.fix
  have hmax : maxLen < 9223372036854775808 := by decide
  subst hfx
  refine cw_seq (cw_seq (cw_region rfl ?_))
  conv => whnf
  refine cw_block ?_
  refine cw_loop (S := Nat × Value) (fun q => [(1, .slice a ms.length c), (6, q.2), (7, .int .i64 (q.1 : Int))])
    (fun q h' => q.1 ≤ ms.length ∧ OB h' q.2 (accP s ms q.1) ∧ ExtH h h' ∧ ∀ b, ob q.2 b → h.size ≤ b) (fun q => ms.length - q.1) (0, v2) ⟨rfl, rfl, rfl, trivial⟩ ⟨Nat.zero_le _, o2, x02, f2⟩ ?_
  clear o2 x02 f2 x2 z1 z2
  rintro ⟨t, v⟩ h3 ⟨ht, o3, x3, f3⟩
  simp only [] at ht o3 f3
  have hacc := accP_le s ms t
  refine cw_seq (cw_seq (cw_region rfl ?_))
  conv => whnf
  by_cases hlt : t < ms.length
  · refine cw_yes rfl (by show (t : Int) < (ms.length : Int); omega) (cw_skip ?_)
    have hx3 := hx.keep (x3.chg (S := fun _ => False)) (fun _ _ e => e)
    obtain ⟨b, o, m, u, rfl, hm, hr, hu⟩ := hx3.row t hlt
    have hmm := accP_succ (s := s) hm
    have hac1 := accP_le s ms (t + 1)
    have hml : m.length ≤ ms.flatten.length := by
      have h1 := upto_succ ms t m hm
      have h2 := upto_le ms (t + 1)
      rw [h1, List.length_append] at h2
      omega
    refine cw_seq (cw_block (cw_seq (cw_region rfl ?_)))
    obtain ⟨va, vc, hve⟩ := o3.r.len
    obtain ⟨ua, uc, hue⟩ := hu.1.len
    subst hve hue
    conv => whnf
    refine ⟨⟨by omega, by show (t : Int) < ((ms.length : Nat) : Int); omega⟩, ?_⟩
    conv => whnf
    refine ⟨_, hr, ?_⟩
    conv => whnf
    rw [u64_in (m.length : Int) m.length rfl (by omega)]
    refine ⟨_, rfl, _, reight_fn m.length h3, ?_⟩
    rintro v4 h4 ⟨o4, x4, f4⟩
    have z3 := x3.size; have z4 := x4.size
    obtain ⟨a4, c4, e4⟩ := o4.r.len
    have e8 := Sha.eight_length m.length
    subst e4
    conv => whnf
    refine ⟨_, rfl, _, append_bytes (ty := 170) (OwnS.more o3 x4) o4.r (by omega), ?_⟩
    rintro v5 h5 ⟨o5, c5, f5⟩
    have z5 := c5.size
    obtain ⟨a5, k5, e5⟩ := o5.r.len
    subst e5
    have g5 : ∀ b, ob (.slice a5 (accP s ms t ++ Sha.eight m.length).length k5) b → h.size ≤ b := fun b hb => (f5 b hb).elim (fun e => f3 b e) (fun e => by omega)
    have x5 : ExtH h h5 := ⟨by omega, fun b hb => by rw [c5.block b (by omega) (fun e => by have := f3 b e; omega), x4.block b (by omega), x3.block b hb]⟩
    have hx5 := hx.keep (x5.chg (S := fun _ => False)) (fun _ _ e => e)
    obtain ⟨b', o', m', u', hba, hm', hr', hu'⟩ := hx5.row t hlt
    injection hba with hba
    injection hba with hb1 hb2 _
    subst hb1 hb2
    rw [hm] at hm'
    injection hm' with hm'
    subst hm'
    refine cw_region rfl ?_
    conv => whnf
    refine ⟨⟨by omega, by show (t : Int) < ((ms.length : Nat) : Int); omega⟩, ?_⟩
    conv => whnf
    refine ⟨_, hr', ?_⟩
    conv => whnf
    have ll : (accP s ms t ++ Sha.eight m.length).length = (accP s ms t).length + 8 := by rw [List.length_append, e8]
    have ll2 : (accP s ms (t + 1)).length = (accP s ms t).length + 8 + m.length := by rw [hmm, List.length_append, ll]
    refine ⟨_, rfl, _, append_bytes (ty := 170) o5 hu'.1 (by omega), ?_⟩
    rintro v6 h6 ⟨o6, c6, f6⟩
    have z6 := c6.size
    rw [← hmm] at o6
    refine cw_region rfl ?_
    exact ⟨(t + 1, v6), ⟨rfl, rfl, slot_i64 _ _ (by simp only []; omega) (by simp only []; omega), trivial⟩, ⟨hlt, o6, ⟨by omega, fun b hb => by
        rw [c6.block b (by omega) (fun e => by have := g5 b e; omega), x5.block b hb]⟩,
      fun b hb => (f6 b hb).elim (fun e => g5 b e) (fun e => by omega)⟩, by show ms.length - (t + 1) < ms.length - t; omega⟩
  · refine cw_no rfl (by show ¬ (t : Int) < (ms.length : Int); omega) (cw_exit ?_)
    have tn : t = ms.length := by omega
    subst tn
    refine cw_seq (cw_region rfl ?_)
    refine cw_ret ⟨_, rfl, ?_, x3, f3⟩
    have : accP s ms ms.length = Sha.pre s ms := by unfold accP; rw [List.take_length]
    rw [← this]
    exact o3
/-- both preimages, whatever the tag -/
theorem preimage_all {D : Nat → Prop} {h : Heap} {s : List UInt8} {x : Value} {ms : List (List UInt8)} {pv : List Value} (hx : PD D h x ms pv) (hD : ∀ b, D b → b < h.size) (hs : s.length ≤ maxLen) (hms : ms.flatten.length + ms.length ≤ 1000000000000) :
    Fx Tryz.prog 208 #[.string (bs s), x] h fun u h' => ∃ v', u = .tuple #[v', .int .i64 (Sha.tagErr s)] ∧ OB h' v' (Sha.preOf s ms) ∧ ExtH h h' ∧ ∀ b, ob v' b → h.size ≤ b := by
  unfold Sha.tagErr Sha.preOf
  by_cases hT : Sha.isTag s = true
  · rw [if_pos hT, if_pos hT]
    exact preimage_fn hx hD hT hms
  · rw [if_neg hT, if_neg hT]
    refine (preimage_no hs (by simpa using hT) h).mono ?_
    rintro _ h' ⟨rfl, rfl⟩
    exact ⟨_, rfl, OB.nil h', ExtH.refl _, fun b hb => (ob_nil hb).elim⟩
theorem rpreimage_all {D : Nat → Prop} {h : Heap} {s : List UInt8} {x : Value} {ms : List (List UInt8)} {pv : List Value} (hx : PD D h x ms pv) (hD : ∀ b, D b → b < h.size) (hs : s.length ≤ maxLen) (hms : ms.flatten.length + ms.length ≤ 1000000000000) :
    Fx Tryz.prog 493 #[.string (bs s), x] h fun u h' => ∃ v', u = .tuple #[v', .int .i64 (Sha.tagErr s)] ∧ OB h' v' (Sha.preOf s ms) ∧ ExtH h h' ∧ ∀ b, ob v' b → h.size ≤ b := by
  unfold Sha.tagErr Sha.preOf
  by_cases hT : Sha.isTag s = true
  · rw [if_pos hT, if_pos hT]
    exact rpreimage_fn hx hD hT hms
  · rw [if_neg hT, if_neg hT]
    refine (rpreimage_no hs (by simpa using hT) h).mono ?_
    rintro _ h' ⟨rfl, rfl⟩
    exact ⟨_, rfl, OB.nil h', ExtH.refl _, fun b hb => (ob_nil hb).elim⟩
theorem stagged_fn {D : Nat → Prop} {h : Heap} {s : List UInt8} {x : Value} {ms : List (List UInt8)} {pv : List Value} (hx : PD D h x ms pv) (hD : ∀ b, D b → b < h.size) (hs : s.length ≤ maxLen) (hms : s.length + ms.flatten.length + ms.length ≤ 100000000000) :
    Fx Tryz.prog 134 #[.string (bs s), x] h fun u h' => u = .tuple #[.agg ((Sha.tagDig s ms).map u8v).toArray, .int .i64 (Sha.tagErr s)] ∧ ExtH h h' := by
  refine fn_of 21 Tryz.func134 rfl (by kernel_rfl) rfl (by simp) ?_
  refine cw_seq (cw_region rfl ?_)
  conv => whnf
  intro h1 n1
  have z1 := n1.size
  have y1 : Blk h1 h.size (List.replicate 32 (u8v 0)) 85 := n1.blk
  have hpl := Sha.preOf_le s ms
  refine cw_seq (cw_region rfl ?_)
  conv => whnf
  refine ⟨_, rfl, _, preimage_all (hx.keep (n1.ext.chg (S := fun _ => False)) (fun _ _ e => e)) (fun b hb => by have := hD b hb; omega) hs (by omega), ?_⟩
  rintro _ h2 ⟨v2, rfl, o2, x2, f2⟩
  have z2 := x2.size
  conv => whnf
  refine cw_seq (cw_seq (cw_region rfl ?_))
  unfold Sha.tagErr Sha.tagDig
  unfold Sha.preOf at o2 hpl
  by_cases hT : Sha.isTag s = true
  · rw [if_pos hT, if_pos hT]
    rw [if_pos hT] at o2 hpl
    refine cw_false rfl (cw_skip ?_)
    obtain ⟨a2, k2, e2⟩ := o2.r.len
    refine cw_seq (cw_region rfl ?_)
    conv => whnf
    refine ⟨_, rfl, #[v2], 170, fun w => by subst e2; kernel_rfl, ?_⟩
    intro h3 n3
    have z3 := n3.size
    conv => whnf
    refine ⟨_, rfl, _, of_fn (PD.one (D := fun k => h1.size ≤ k ∧ k < h3.size) n3.blk ⟨by omega, by omega⟩ ⟨RB.more o2.r n3.ext, fun _ b hb => ⟨f2 b hb, by have := OwnS.lt o2 hb; omega⟩⟩) (fun b hb => hb.2) (by simp; omega), ?_⟩
    rintro _ h4 ⟨rfl, x4⟩
    have z4 := x4.size
    simp only [List.flatten_cons, List.flatten_nil, List.append_nil]
    conv => whnf
    refine ⟨_, _, x4.blk (n3.ext.blk (x2.blk y1)), ⟨(show (32 : Nat) ≤ 32 by decide), by rfl, fun x hx => one8 _ x (by simpa using hx)⟩, ?_⟩
    intro h5 w5
    replace w5 := w5.cast (l' := (Sha.digest (Sha.pre s ms)).map u8v) (by simp [splice, Sha.sum_length, Sha.digest])
    have z5 := w5.size
    refine cw_ret ?_
    conv => whnf
    refine ⟨_, by rfl, w5.new.all, rfl, ⟨by omega, fun b hb => by rw [w5.block b (by omega), x4.block b (by omega), n3.block b (by omega), x2.block b (by omega), n1.block b hb]⟩⟩
  · rw [if_neg hT, if_neg hT]
    refine cw_true rfl ?_
    refine cw_seq (cw_region rfl ?_)
    conv => whnf
    refine ⟨_, rfl, (List.replicate 32 (u8v 0)).toArray, fun w => by kernel_rfl, ?_⟩
    conv => whnf
    refine ⟨_, _, x2.blk y1, ⟨(show (32 : Nat) ≤ 32 by decide), by rfl, by simp [u8v, Value.oneCell']⟩, ?_⟩
    intro h5 w5
    replace w5 := w5.cast (l' := List.replicate 32 (u8v 0)) (by simp [splice])
    have z5 := w5.size
    refine cw_ret ?_
    conv => whnf
    refine ⟨_, by rfl, w5.new.all, by simp; rfl, ⟨by omega, fun b hb => by rw [w5.block b (by omega), x2.block b (by omega), n1.block b hb]⟩⟩
theorem rtagged_fn {D : Nat → Prop} {h : Heap} {s : List UInt8} {x : Value} {ms : List (List UInt8)} {pv : List Value} (T : Tab h) (hx : PD D h x ms pv) (hD : ∀ b, D b → b < h.size) (hs : s.length ≤ maxLen) (hms : s.length + ms.flatten.length + ms.length ≤ 100000000000) :
    Fx Tryz.prog 393 #[.string (bs s), x] h fun u h' => u = .tuple #[.agg ((Sha.tagDig s ms).map u8v).toArray, .int .i64 (Sha.tagErr s)] ∧ ExtH h h' := by
  refine fn_of 21 Tryz.func393 rfl (by kernel_rfl) rfl (by simp) ?_
  refine cw_seq (cw_region rfl ?_)
  conv => whnf
  intro h1 n1
  have z1 := n1.size
  have y1 : Blk h1 h.size (List.replicate 32 (u8v 0)) 85 := n1.blk
  have hpl := Sha.preOf_le s ms
  refine cw_seq (cw_region rfl ?_)
  conv => whnf
  refine ⟨_, rfl, _, rpreimage_all (hx.keep (n1.ext.chg (S := fun _ => False)) (fun _ _ e => e)) (fun b hb => by have := hD b hb; omega) hs (by omega), ?_⟩
  rintro _ h2 ⟨v2, rfl, o2, x2, f2⟩
  have z2 := x2.size
  conv => whnf
  refine cw_seq (cw_seq (cw_region rfl ?_))
  unfold Sha.tagErr Sha.tagDig
  unfold Sha.preOf at o2 hpl
  by_cases hT : Sha.isTag s = true
  · rw [if_pos hT, if_pos hT]
    rw [if_pos hT] at o2 hpl
    refine cw_false rfl (cw_skip ?_)
    obtain ⟨a2, k2, e2⟩ := o2.r.len
    refine cw_seq (cw_region rfl ?_)
    conv => whnf
    refine ⟨_, rfl, #[v2], 170, fun w => by subst e2; kernel_rfl, ?_⟩
    intro h3 n3
    have z3 := n3.size
    conv => whnf
    refine ⟨_, rfl, _, rof_fn (T.more (n1.ext.trans (x2.trans n3.ext))) (PD.one (D := fun k => h1.size ≤ k ∧ k < h3.size) n3.blk ⟨by omega, by omega⟩ ⟨RB.more o2.r n3.ext, fun _ b hb => ⟨f2 b hb, by have := OwnS.lt o2 hb; omega⟩⟩) (by simp; omega), ?_⟩
    rintro _ h4 ⟨rfl, x4⟩
    have z4 := x4.size
    simp only [List.flatten_cons, List.flatten_nil, List.append_nil]
    conv => whnf
    refine ⟨_, _, x4.blk (n3.ext.blk (x2.blk y1)), ⟨(show (32 : Nat) ≤ 32 by decide), by rfl, fun x hx => one8 _ x (by simpa using hx)⟩, ?_⟩
    intro h5 w5
    replace w5 := w5.cast (l' := (Sha.digest (Sha.pre s ms)).map u8v) (by simp [splice, Sha.sum_length, Sha.digest])
    have z5 := w5.size
    refine cw_ret ?_
    conv => whnf
    refine ⟨_, by rfl, w5.new.all, rfl, ⟨by omega, fun b hb => by rw [w5.block b (by omega), x4.block b (by omega), n3.block b (by omega), x2.block b (by omega), n1.block b hb]⟩⟩
  · rw [if_neg hT, if_neg hT]
    refine cw_true rfl ?_
    refine cw_seq (cw_region rfl ?_)
    conv => whnf
    refine ⟨_, rfl, (List.replicate 32 (u8v 0)).toArray, fun w => by kernel_rfl, ?_⟩
    conv => whnf
    refine ⟨_, _, x2.blk y1, ⟨(show (32 : Nat) ≤ 32 by decide), by rfl, by simp [u8v, Value.oneCell']⟩, ?_⟩
    intro h5 w5
    replace w5 := w5.cast (l' := List.replicate 32 (u8v 0)) (by simp [splice])
    have z5 := w5.size
    refine cw_ret ?_
    conv => whnf
    refine ⟨_, by rfl, w5.new.all, by simp; rfl, ⟨by omega, fun b hb => by rw [w5.block b (by omega), x2.block b (by omega), n1.block b hb]⟩⟩
end Go.Proofs.YtdielfpgekenkaaGreatDoor
namespace Go.Proofs.YtdielfpgekenkaaGreatDoor.Sx
open Go Vm
set_option linter.unusedSimpArgs false
set_option linter.unusedVariables false
noncomputable section
theorem kRow_den (σ : Env) : denL σ kRow = some (Sha.K.map u32v) := by
  have : ∀ l : List UInt32, denL σ ((l.map (·.toNat)).map fun n => .i .u32 (.ofNat n)) = some (l.map u32v) := by
    intro l
    induction l with
    | nil => rfl
    | cons b l ih => simp only [List.map_cons, denL, ih, den, Option.bind_some, Option.map_some]; rfl
  unfold kRow
  rw [ShaN.KN_eq]
  exact this _
theorem tabB_ok {C : Cx} (hg : 1 < C.ng) {st : St} {σ : Env} {h : Heap} (H : Rep C.ng st σ h) (e : tabB st = true) : Go.Proofs.YtdielfpgekenkaaGreatDoor.Tab h := by
  unfold tabB at e
  split at e
  · rename_i l ho
    obtain ⟨q, hq, vs, arr, t, fz, hl, ho', hall⟩ := H.obj _ _ ho
    rw [eqVs_ok _ _ e, kRow_den] at hl
    cases hl
    obtain ⟨c, hc⟩ := H.glob _ hg
    rw [hq] at hc
    cases hc
    intro j v hj
    rw [Nat.zero_add]
    have := hall j v hj
    simp only at ho'
    simp [Vm.rd, ho', this]
  · cases e
theorem tag_ok {C : Cx} (hP : C.P = Tryz.prog) {args : List SV} {st st' : St} {s : SV} (e : hTag args st = some (s, st')) {σ : Env} {h : Heap} {vs : List Value} (H : Rep C.ng st σ h) (hv : denL σ args = some vs) {f : Nat}
    (F : ∀ (t : List UInt8) (x : Value) (ms : List (List UInt8)) (pv : List Value), PD (fun b => b < h.size) h x ms pv → t.length ≤ maxLen → t.length + ms.flatten.length + ms.length ≤ 100000000000 → Fx Tryz.prog f #[.string (bs t), x] h fun u h' => u = .tuple #[.agg ((Sha.tagDig t ms).map u8v).toArray, .int .i64 (Sha.tagErr t)] ∧ ExtH h h') :
    Fx C.P f vs.toArray h fun v h' => ∃ σ', den σ' s = some v ∧ Goes C.ng st σ h st' σ' h' := by
  rw [hP]
  unfold hTag at e
  split at e
  · rename_i t x
    simp only [Option.bind_eq_some_iff] at e
    obtain ⟨ps, hps, e⟩ := e
    split at e
    · rename_i hc
      simp only [Bool.and_eq_true, Nat.blt_eq] at hc
      obtain ⟨⟨hlen, hb⟩, ht⟩ := hc
      have hst : den σ (.s t) = some (.string (bytesOf t)) := den_str hb
      simp only [denL, hst, Option.bind_some, Option.bind_eq_some_iff, Option.map_eq_some_iff] at hv
      obtain ⟨_, ⟨xv, hx, _, h0, rfl⟩, rfl⟩ := hv
      cases h0
      obtain ⟨pv, hPD, hall⟩ := parts_ok (H.obs (Pre.refl _)) (fun i q hq => (H.dom i q hq).2) hps hx
      rw [forceNs_eq] at e
      cases e
      have hl2 : (ps.map (·.map UInt8.ofNat)).flatten.length = ps.flatten.length := by have := congrArg List.length (flat_nats hall); rwa [List.length_map] at this
      refine (F (t.map UInt8.ofNat) xv _ pv hPD (by rw [List.length_map]; simp only [maxLen]; omega) (by rw [List.length_map, List.length_map]; omega)).mono ?_
      rintro v h' ⟨rfl, hxt⟩
      refine ⟨σ, ?_, H.ext hxt, Steps.ext _ _ _ hxt, Nat.le_refl _, Nat.le_refl _⟩
      have h1 := dig_den σ (Sha.digest (Sha.pre (t.map UInt8.ofNat) (ps.map (·.map UInt8.ofNat))))
      rw [← ShaN.digN_eq] at h1
      have h2 : Sha.tagDig (t.map UInt8.ofNat) (ps.map (·.map UInt8.ofNat)) = Sha.digest (Sha.pre (t.map UInt8.ofNat) (ps.map (·.map UInt8.ofNat))) := by unfold Sha.tagDig; rw [if_pos ht]
      have h3 : Sha.tagErr (t.map UInt8.ofNat) = 0 := by unfold Sha.tagErr; rw [if_pos ht]
      rw [h2, h3]
      simp only [den, denL] at h1 ⊢
      simp only [h1, Option.bind_some, Option.map_some]
    · cases e
  · cases e
theorem stag_ok {C : Cx} (hP : C.P = Tryz.prog) {args : List SV} {st st' : St} {s : SV} (e : hTag args st = some (s, st')) {σ : Env} {h : Heap} {vs : List Value} (H : Rep C.ng st σ h) (hv : denL σ args = some vs) :
    Fx C.P 134 vs.toArray h fun v h' => ∃ σ', den σ' s = some v ∧ Goes C.ng st σ h st' σ' h' :=
  tag_ok hP e H hv fun t x ms pv hx h1 h2 => stagged_fn hx (fun b hb => hb) h1 h2
theorem rtag_ok {C : Cx} (hP : C.P = Tryz.prog) (hg : 1 < C.ng) {args : List SV} {st st' : St} {s : SV} (e : hRTag args st = some (s, st')) {σ : Env} {h : Heap} {vs : List Value} (H : Rep C.ng st σ h) (hv : denL σ args = some vs) :
    Fx C.P 393 vs.toArray h fun v h' => ∃ σ', den σ' s = some v ∧ Goes C.ng st σ h st' σ' h' := by
  unfold hRTag at e
  split at e
  · rename_i ht
    exact tag_ok hP e H hv fun t x ms pv hx h1 h2 => rtagged_fn (tabB_ok hg H ht) hx (fun b hb => hb) h1 h2
  · cases e
theorem rof_ok {C : Cx} (hP : C.P = Tryz.prog) (hg : 1 < C.ng) {args : List SV} {st st' : St} {s : SV} (e : hROf args st = some (s, st')) {σ : Env} {h : Heap} {vs : List Value} (H : Rep C.ng st σ h) (hv : denL σ args = some vs) :
    Fx C.P 264 vs.toArray h fun v h' => ∃ σ', den σ' s = some v ∧ Goes C.ng st σ h st' σ' h' := by
  rw [hP]
  unfold hROf at e
  split at e
  · rename_i ht
    unfold hOf at e
    split at e
    · rename_i x
      simp only [Option.bind_eq_some_iff] at e
      obtain ⟨ps, hps, e⟩ := e
      simp only [denL, Option.bind_eq_some_iff, Option.map_eq_some_iff] at hv
      obtain ⟨xv, hx, _, h0, rfl⟩ := hv
      cases h0
      obtain ⟨pv, hPD, hall⟩ := parts_ok (H.obs (Pre.refl _)) (fun i q hq => (H.dom i q hq).2) hps hx
      split at e
      · rename_i hlen
        rw [forceNs_eq] at e
        cases e
        rw [Nat.blt_eq] at hlen
        have hf := flat_nats hall
        have hl2 : (ps.map (·.map UInt8.ofNat)).flatten.length = ps.flatten.length := by have := congrArg List.length hf; rwa [List.length_map] at this
        refine (rof_fn (tabB_ok hg H ht) hPD (by omega)).mono ?_
        rintro v h' ⟨rfl, hxt⟩
        refine ⟨σ, ?_, H.ext hxt, Steps.ext _ _ _ hxt, Nat.le_refl _, Nat.le_refl _⟩
        rw [← hf, ShaN.digN_eq, dig_den]
      · cases e
    · cases e
  · cases e
end
end Go.Proofs.YtdielfpgekenkaaGreatDoor.Sx
