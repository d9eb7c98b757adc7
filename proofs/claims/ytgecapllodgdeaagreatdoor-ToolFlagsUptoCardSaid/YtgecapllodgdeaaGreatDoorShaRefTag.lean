/-
  The contracts of the document's Preimage and of both Tagged.
-/
import Derived.Test.YtgecapllodgdeaaGreatDoorShaRefOf
namespace Go.Proofs.YtgecapllodgdeaaGreatDoor.Sha
def tagErr (s : List UInt8) : Int := if isTag s = true then 0 else 22
def preOf (s : List UInt8) (ms : List (List UInt8)) : List UInt8 := if isTag s = true then pre s ms else []
def tagDig (s : List UInt8) (ms : List (List UInt8)) : List UInt8 := if isTag s = true then digest (pre s ms) else List.replicate 32 0
theorem tagDig_length (s : List UInt8) (ms : List (List UInt8)) : (tagDig s ms).length = 32 := by
  unfold tagDig
  split
  · rfl
  · simp
theorem preOf_le (s : List UInt8) (ms : List (List UInt8)) : (preOf s ms).length ≤ 1 + s.length + 8 * ms.length + ms.flatten.length := by
  unfold preOf
  split
  · have := accP_le s ms ms.length
    unfold accP at this
    rwa [List.take_length] at this
  · simp
end Go.Proofs.YtgecapllodgdeaaGreatDoor.Sha
namespace Go.Proofs.YtgecapllodgdeaaGreatDoor
open Go Vm
set_option maxRecDepth 100000
theorem rpreimage_no {s : List UInt8} {x : Value} (hs : s.length ≤ maxLen) (hT : Sha.isTag s = false) : FxP Tryz.prog 44 #[.string (bs s), x] (.tuple #[.slice none 0 0, .int .i64 22]) := by
  intro h
  refine fn_of 39 Tryz.func44 rfl (by kernel_rfl) rfl (by simp) ?_
  refine cw_seq (cw_region rfl ?_)
  refine cw_seq (cw_seq (cw_region rfl ?_))
  conv => whnf
  refine ⟨_, rfl, _, rtag_fn s hs h, ?_⟩
  rw [hT]
  rintro _ h0 ⟨rfl, e⟩
  subst h0
  conv => whnf
  refine cw_true rfl (cw_seq (cw_region rfl ?_))
  exact cw_ret ⟨rfl, rfl⟩
theorem rpreimage_fn {D : Nat → Prop} {h : Heap} {s : List UInt8} {x : Value} {ms : List (List UInt8)} {pv : List Value} (hx : PD D h x ms pv) (hD : ∀ b, D b → b < h.size) (hT : Sha.isTag s = true)
    (hms : ms.flatten.length + ms.length ≤ 1000000000000) :
    Fx Tryz.prog 44 #[.string (bs s), x] h fun u h' => ∃ v', u = .tuple #[v', .int .i64 0] ∧ OB h' v' (Sha.pre s ms) ∧ ExtH h h' ∧ ∀ b, ob v' b → h.size ≤ b := by
  refine fn_of 39 Tryz.func44 rfl (by kernel_rfl) rfl (by simp) ?_
  obtain ⟨hs1, hs2⟩ := Sha.isTag_len hT
  refine cw_seq (cw_region rfl ?_)
  refine cw_seq (cw_seq (cw_region rfl ?_))
  conv => whnf
  refine ⟨_, rfl, _, rtag_fn s (by simp only [maxLen]; omega) h, ?_⟩
  rw [hT]
  rintro _ h0 ⟨rfl, e⟩
  subst h0
  conv => whnf
  refine cw_false rfl (cw_skip ?_)
  refine cw_seq (cw_region rfl ?_)
  conv => whnf
  have ew : Value.int .u8 (IntKind.u8.wrap (s.length : Int)) = u8v (UInt8.ofNat s.length) := congrArg (Value.int .u8) (wrap8_nat s.length)
  refine ⟨_, rfl, #[u8v (UInt8.ofNat s.length)], 5, fun w => (congrArg (fun v => (Instr.buildSlice 33 1 #[(0, v)]).run Tryz.prog w) ew).trans (by kernel_rfl), ?_⟩
  intro h1 n1
  conv => whnf
  refine ⟨_, rfl, _, append_str (ty := 33) n1.blk hs1 hs2, ?_⟩
  rintro v2 h2 ⟨o2, x2, f2⟩
  have z1 := n1.size; have z2 := x2.size
  have x02 := n1.ext.trans x2
  replace o2 : OB h2 v2 (accP s ms 0) := by
    have : accP s ms 0 = UInt8.ofNat s.length :: s := by simp [accP, Sha.pre, Sha.encP]
    rw [this]; exact o2
  replace f2 : ∀ b, ob v2 b → h.size ≤ b := fun b hb => by have := f2 b hb; omega
  clear n1
  obtain ⟨a, c, hfx, hlen⟩ := hx.fix
  have hmax : maxLen < 9223372036854775808 := by decide
  subst hfx
  refine cw_seq (cw_seq (cw_region rfl ?_))
  conv => whnf
  refine cw_block ?_
  refine cw_loop (S := Nat × Value) (fun q => [(1, .slice a ms.length c), (6, q.2), (7, .int .i64 (q.1 : Int))])
    (fun q h' => q.1 ≤ ms.length ∧ OB h' q.2 (accP s ms q.1) ∧ ExtH h h' ∧ ∀ b, ob q.2 b → h.size ≤ b) (fun q => ms.length - q.1) (0, v2) ⟨rfl, rfl, rfl, trivial⟩ ⟨Nat.zero_le _, o2, x02, f2⟩ ?_
  clear o2 x02 f2 x2 z1 z2
  rintro ⟨t, v⟩ h3 ⟨ht, o3, x3, f3⟩
  simp only [] at ht o3 f3
  have hacc := accP_le s ms t
  refine cw_seq (cw_seq (cw_region rfl ?_))
  conv => whnf
  by_cases hlt : t < ms.length
  · refine cw_yes rfl (by show (t : Int) < (ms.length : Int); omega) (cw_skip ?_)
    have hx3 := hx.keep (x3.chg (S := fun _ => False)) (fun _ _ e => e)
    obtain ⟨b, o, m, u, rfl, hm, hr, hu⟩ := hx3.row t hlt
    have hmm := accP_succ (s := s) hm
    have hac1 := accP_le s ms (t + 1)
    have hml : m.length ≤ ms.flatten.length := by
      have h1 := upto_succ ms t m hm
      have h2 := upto_le ms (t + 1)
      rw [h1, List.length_append] at h2
      omega
    refine cw_seq (cw_block (cw_seq (cw_region rfl ?_)))
    obtain ⟨va, vc, hve⟩ := o3.r.len
    obtain ⟨ua, uc, hue⟩ := hu.1.len
    subst hve hue
    conv => whnf
    refine ⟨⟨by omega, by show (t : Int) < ((ms.length : Nat) : Int); omega⟩, ?_⟩
    conv => whnf
    refine ⟨_, hr, ?_⟩
    conv => whnf
    rw [u64_in (m.length : Int) m.length rfl (by omega)]
    refine ⟨_, rfl, _, reight_fn m.length h3, ?_⟩
    rintro v4 h4 ⟨o4, x4, f4⟩
    have z3 := x3.size; have z4 := x4.size
    obtain ⟨a4, c4, e4⟩ := o4.r.len
    have e8 := Sha.eight_length m.length
    subst e4
    conv => whnf
    refine ⟨_, rfl, _, append_bytes (ty := 33) (OwnS.more o3 x4) o4.r (by omega), ?_⟩
    rintro v5 h5 ⟨o5, c5, f5⟩
    have z5 := c5.size
    obtain ⟨a5, k5, e5⟩ := o5.r.len
    subst e5
    have g5 : ∀ b, ob (.slice a5 (accP s ms t ++ Sha.eight m.length).length k5) b → h.size ≤ b := fun b hb => (f5 b hb).elim (fun e => f3 b e) (fun e => by omega)
    have x5 : ExtH h h5 := ⟨by omega, fun b hb => by rw [c5.block b (by omega) (fun e => by have := f3 b e; omega), x4.block b (by omega), x3.block b hb]⟩
    have hx5 := hx.keep (x5.chg (S := fun _ => False)) (fun _ _ e => e)
    obtain ⟨b', o', m', u', hba, hm', hr', hu'⟩ := hx5.row t hlt
    injection hba with hba
    injection hba with hb1 hb2 _
    subst hb1 hb2
    rw [hm] at hm'
    injection hm' with hm'
    subst hm'
    refine cw_region rfl ?_
    conv => whnf
    refine ⟨⟨by omega, by show (t : Int) < ((ms.length : Nat) : Int); omega⟩, ?_⟩
    conv => whnf
    refine ⟨_, hr', ?_⟩
    conv => whnf
    have ll : (accP s ms t ++ Sha.eight m.length).length = (accP s ms t).length + 8 := by rw [List.length_append, e8]
    have ll2 : (accP s ms (t + 1)).length = (accP s ms t).length + 8 + m.length := by rw [hmm, List.length_append, ll]
    refine ⟨_, rfl, _, append_bytes (ty := 33) o5 hu'.1 (by omega), ?_⟩
    rintro v6 h6 ⟨o6, c6, f6⟩
    have z6 := c6.size
    rw [← hmm] at o6
    refine cw_region rfl ?_
    exact ⟨(t + 1, v6), ⟨rfl, rfl, slot_i64 _ _ (by simp only []; omega) (by simp only []; omega), trivial⟩, ⟨hlt, o6, ⟨by omega, fun b hb => by
        rw [c6.block b (by omega) (fun e => by have := g5 b e; omega), x5.block b hb]⟩,
      fun b hb => (f6 b hb).elim (fun e => g5 b e) (fun e => by omega)⟩, by show ms.length - (t + 1) < ms.length - t; omega⟩
  · refine cw_no rfl (by show ¬ (t : Int) < (ms.length : Int); omega) (cw_exit ?_)
    have tn : t = ms.length := by omega
    subst tn
    refine cw_seq (cw_region rfl ?_)
    refine cw_ret ⟨_, rfl, ?_, x3, f3⟩
    have : accP s ms ms.length = Sha.pre s ms := by unfold accP; rw [List.take_length]
    rw [← this]
    exact o3
/-- both preimages, whatever the tag -/
theorem preimage_all {D : Nat → Prop} {h : Heap} {s : List UInt8} {x : Value} {ms : List (List UInt8)} {pv : List Value} (hx : PD D h x ms pv) (hD : ∀ b, D b → b < h.size) (hs : s.length ≤ maxLen) (hms : ms.flatten.length + ms.length ≤ 1000000000000) :
    Fx Tryz.prog 41 #[.string (bs s), x] h fun u h' => ∃ v', u = .tuple #[v', .int .i64 (Sha.tagErr s)] ∧ OB h' v' (Sha.preOf s ms) ∧ ExtH h h' ∧ ∀ b, ob v' b → h.size ≤ b := by
  unfold Sha.tagErr Sha.preOf
  by_cases hT : Sha.isTag s = true
  · rw [if_pos hT, if_pos hT]
    exact preimage_fn hx hD hT hms
  · rw [if_neg hT, if_neg hT]
    refine (preimage_no hs (by simpa using hT) h).mono ?_
    rintro _ h' ⟨rfl, rfl⟩
    exact ⟨_, rfl, OB.nil h', ExtH.refl _, fun b hb => (ob_nil hb).elim⟩
theorem rpreimage_all {D : Nat → Prop} {h : Heap} {s : List UInt8} {x : Value} {ms : List (List UInt8)} {pv : List Value} (hx : PD D h x ms pv) (hD : ∀ b, D b → b < h.size) (hs : s.length ≤ maxLen) (hms : ms.flatten.length + ms.length ≤ 1000000000000) :
    Fx Tryz.prog 44 #[.string (bs s), x] h fun u h' => ∃ v', u = .tuple #[v', .int .i64 (Sha.tagErr s)] ∧ OB h' v' (Sha.preOf s ms) ∧ ExtH h h' ∧ ∀ b, ob v' b → h.size ≤ b := by
  unfold Sha.tagErr Sha.preOf
  by_cases hT : Sha.isTag s = true
  · rw [if_pos hT, if_pos hT]
    exact rpreimage_fn hx hD hT hms
  · rw [if_neg hT, if_neg hT]
    refine (rpreimage_no hs (by simpa using hT) h).mono ?_
    rintro _ h' ⟨rfl, rfl⟩
    exact ⟨_, rfl, OB.nil h', ExtH.refl _, fun b hb => (ob_nil hb).elim⟩
theorem stagged_fn {D : Nat → Prop} {h : Heap} {s : List UInt8} {x : Value} {ms : List (List UInt8)} {pv : List Value} (hx : PD D h x ms pv) (hD : ∀ b, D b → b < h.size) (hs : s.length ≤ maxLen) (hms : s.length + ms.flatten.length + ms.length ≤ 100000000000) :
    Fx Tryz.prog 25 #[.string (bs s), x] h fun u h' => u = .tuple #[.agg ((Sha.tagDig s ms).map u8v).toArray, .int .i64 (Sha.tagErr s)] ∧ ExtH h h' := by
  refine fn_of 21 Tryz.func25 rfl (by kernel_rfl) rfl (by simp) ?_
  refine cw_seq (cw_region rfl ?_)
  conv => whnf
  intro h1 n1
  have z1 := n1.size
  have y1 : Blk h1 h.size (List.replicate 32 (u8v 0)) 53 := n1.blk
  have hpl := Sha.preOf_le s ms
  refine cw_seq (cw_region rfl ?_)
  conv => whnf
  refine ⟨_, rfl, _, preimage_all (hx.keep (n1.ext.chg (S := fun _ => False)) (fun _ _ e => e)) (fun b hb => by have := hD b hb; omega) hs (by omega), ?_⟩
  rintro _ h2 ⟨v2, rfl, o2, x2, f2⟩
  have z2 := x2.size
  conv => whnf
  refine cw_seq (cw_seq (cw_region rfl ?_))
  unfold Sha.tagErr Sha.tagDig
  unfold Sha.preOf at o2 hpl
  by_cases hT : Sha.isTag s = true
  · rw [if_pos hT, if_pos hT]
    rw [if_pos hT] at o2 hpl
    refine cw_false rfl (cw_skip ?_)
    obtain ⟨a2, k2, e2⟩ := o2.r.len
    refine cw_seq (cw_region rfl ?_)
    conv => whnf
    refine ⟨_, rfl, #[v2], 33, fun w => by subst e2; kernel_rfl, ?_⟩
    intro h3 n3
    have z3 := n3.size
    conv => whnf
    refine ⟨_, rfl, _, of_fn (PD.one (D := fun k => h1.size ≤ k ∧ k < h3.size) n3.blk ⟨by omega, by omega⟩ ⟨RB.more o2.r n3.ext, fun _ b hb => ⟨f2 b hb, by have := OwnS.lt o2 hb; omega⟩⟩) (fun b hb => hb.2) (by simp; omega), ?_⟩
    rintro _ h4 ⟨rfl, x4⟩
    have z4 := x4.size
    simp only [List.flatten_cons, List.flatten_nil, List.append_nil]
    conv => whnf
    refine ⟨_, _, x4.blk (n3.ext.blk (x2.blk y1)), ⟨(show (32 : Nat) ≤ 32 by decide), by rfl, fun x hx => one8 _ x (by simpa using hx)⟩, ?_⟩
    intro h5 w5
    replace w5 := w5.cast (l' := (Sha.digest (Sha.pre s ms)).map u8v) (by simp [splice, Sha.sum_length, Sha.digest])
    have z5 := w5.size
    refine cw_ret ?_
    conv => whnf
    refine ⟨_, by rfl, w5.new.all, rfl, ⟨by omega, fun b hb => by rw [w5.block b (by omega), x4.block b (by omega), n3.block b (by omega), x2.block b (by omega), n1.block b hb]⟩⟩
  · rw [if_neg hT, if_neg hT]
    refine cw_true rfl ?_
    refine cw_seq (cw_region rfl ?_)
    conv => whnf
    refine ⟨_, rfl, (List.replicate 32 (u8v 0)).toArray, fun w => by kernel_rfl, ?_⟩
    conv => whnf
    refine ⟨_, _, x2.blk y1, ⟨(show (32 : Nat) ≤ 32 by decide), by rfl, by simp [u8v, Value.oneCell']⟩, ?_⟩
    intro h5 w5
    replace w5 := w5.cast (l' := List.replicate 32 (u8v 0)) (by simp [splice])
    have z5 := w5.size
    refine cw_ret ?_
    conv => whnf
    refine ⟨_, by rfl, w5.new.all, by simp; rfl, ⟨by omega, fun b hb => by rw [w5.block b (by omega), x2.block b (by omega), n1.block b hb]⟩⟩
theorem rtagged_fn {D : Nat → Prop} {h : Heap} {s : List UInt8} {x : Value} {ms : List (List UInt8)} {pv : List Value} (T : Tab h) (hx : PD D h x ms pv) (hD : ∀ b, D b → b < h.size) (hs : s.length ≤ maxLen) (hms : s.length + ms.flatten.length + ms.length ≤ 100000000000) :
    Fx Tryz.prog 27 #[.string (bs s), x] h fun u h' => u = .tuple #[.agg ((Sha.tagDig s ms).map u8v).toArray, .int .i64 (Sha.tagErr s)] ∧ ExtH h h' := by
  refine fn_of 21 Tryz.func27 rfl (by kernel_rfl) rfl (by simp) ?_
  refine cw_seq (cw_region rfl ?_)
  conv => whnf
  intro h1 n1
  have z1 := n1.size
  have y1 : Blk h1 h.size (List.replicate 32 (u8v 0)) 53 := n1.blk
  have hpl := Sha.preOf_le s ms
  refine cw_seq (cw_region rfl ?_)
  conv => whnf
  refine ⟨_, rfl, _, rpreimage_all (hx.keep (n1.ext.chg (S := fun _ => False)) (fun _ _ e => e)) (fun b hb => by have := hD b hb; omega) hs (by omega), ?_⟩
  rintro _ h2 ⟨v2, rfl, o2, x2, f2⟩
  have z2 := x2.size
  conv => whnf
  refine cw_seq (cw_seq (cw_region rfl ?_))
  unfold Sha.tagErr Sha.tagDig
  unfold Sha.preOf at o2 hpl
  by_cases hT : Sha.isTag s = true
  · rw [if_pos hT, if_pos hT]
    rw [if_pos hT] at o2 hpl
    refine cw_false rfl (cw_skip ?_)
    obtain ⟨a2, k2, e2⟩ := o2.r.len
    refine cw_seq (cw_region rfl ?_)
    conv => whnf
    refine ⟨_, rfl, #[v2], 33, fun w => by subst e2; kernel_rfl, ?_⟩
    intro h3 n3
    have z3 := n3.size
    conv => whnf
    refine ⟨_, rfl, _, rof_fn (T.more (n1.ext.trans (x2.trans n3.ext))) (PD.one (D := fun k => h1.size ≤ k ∧ k < h3.size) n3.blk ⟨by omega, by omega⟩ ⟨RB.more o2.r n3.ext, fun _ b hb => ⟨f2 b hb, by have := OwnS.lt o2 hb; omega⟩⟩) (by simp; omega), ?_⟩
    rintro _ h4 ⟨rfl, x4⟩
    have z4 := x4.size
    simp only [List.flatten_cons, List.flatten_nil, List.append_nil]
    conv => whnf
    refine ⟨_, _, x4.blk (n3.ext.blk (x2.blk y1)), ⟨(show (32 : Nat) ≤ 32 by decide), by rfl, fun x hx => one8 _ x (by simpa using hx)⟩, ?_⟩
    intro h5 w5
    replace w5 := w5.cast (l' := (Sha.digest (Sha.pre s ms)).map u8v) (by simp [splice, Sha.sum_length, Sha.digest])
    have z5 := w5.size
    refine cw_ret ?_
    conv => whnf
    refine ⟨_, by rfl, w5.new.all, rfl, ⟨by omega, fun b hb => by rw [w5.block b (by omega), x4.block b (by omega), n3.block b (by omega), x2.block b (by omega), n1.block b hb]⟩⟩
  · rw [if_neg hT, if_neg hT]
    refine cw_true rfl ?_
    refine cw_seq (cw_region rfl ?_)
    conv => whnf
    refine ⟨_, rfl, (List.replicate 32 (u8v 0)).toArray, fun w => by kernel_rfl, ?_⟩
    conv => whnf
    refine ⟨_, _, x2.blk y1, ⟨(show (32 : Nat) ≤ 32 by decide), by rfl, by simp [u8v, Value.oneCell']⟩, ?_⟩
    intro h5 w5
    replace w5 := w5.cast (l' := List.replicate 32 (u8v 0)) (by simp [splice])
    have z5 := w5.size
    refine cw_ret ?_
    conv => whnf
    refine ⟨_, by rfl, w5.new.all, by simp; rfl, ⟨by omega, fun b hb => by rw [w5.block b (by omega), x2.block b (by omega), n1.block b hb]⟩⟩
end Go.Proofs.YtgecapllodgdeaaGreatDoor
