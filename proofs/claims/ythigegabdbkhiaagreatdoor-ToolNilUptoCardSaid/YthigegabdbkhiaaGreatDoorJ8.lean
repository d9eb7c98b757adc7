/-
  Preimages: what is hashed for a purpose; package sha's Preimage; plain: unlike tags or parts have unlike preimages.
  The contracts of the document's New, Copy, taken, joined.
  The contracts of the document's Sum, Of, Parts.
  The contracts of the document's Preimage and of both Tagged.
-/
import Derived.Test.YthigegabdbkhiaaGreatDoorJ7
import Derived.Deep.AppendSrc
namespace Go.Proofs.YthigegabdbkhiaaGreatDoor.Sha
def encP (ms : List (List UInt8)) : List UInt8 := ms.flatMap fun m => eight m.length ++ m
def pre (s : List UInt8) (ms : List (List UInt8)) : List UInt8 := UInt8.ofNat s.length :: (s ++ encP ms)
theorem eight_inj {n m : Nat} (hn : n < 18446744073709551616) (hm : m < 18446744073709551616) (h : eight n = eight m) : n = m := by
  have e : ∀ i, i < 8 → (n / 2 ^ (56 - 8 * i)) % 256 = (m / 2 ^ (56 - 8 * i)) % 256 := fun i hi => by
    have h1 := congrArg (fun l => (l.getD i 0).toNat) h
    have : i = 0 ∨ i = 1 ∨ i = 2 ∨ i = 3 ∨ i = 4 ∨ i = 5 ∨ i = 6 ∨ i = 7 := by omega
    rcases this with rfl | rfl | rfl | rfl | rfl | rfl | rfl | rfl <;> simpa [eight] using h1
  have e0 := e 0 (by omega); have e1 := e 1 (by omega); have e2 := e 2 (by omega); have e3 := e 3 (by omega)
  have e4 := e 4 (by omega); have e5 := e 5 (by omega); have e6 := e 6 (by omega); have e7 := e 7 (by omega)
  simp only [Nat.mul_zero, Nat.sub_zero, Nat.reduceMul, Nat.reduceSub, Nat.reducePow, Nat.pow_zero, Nat.div_one] at e0 e1 e2 e3 e4 e5 e6 e7
  clear e h
  omega
def small (ms : List (List UInt8)) : Prop := ∀ m ∈ ms, m.length < 18446744073709551616
theorem encP_cons (m : List UInt8) (ms : List (List UInt8)) : encP (m :: ms) = eight m.length ++ (m ++ encP ms) := by simp [encP]
theorem encP_step {m n : List UInt8} {xs ys : List UInt8} (hm : m.length < 18446744073709551616) (hn : n.length < 18446744073709551616) (h : eight m.length ++ (m ++ xs) = eight n.length ++ (n ++ ys)) : m = n ∧ xs = ys := by
  obtain ⟨h1, h2⟩ := List.append_inj h (by simp [eight_length])
  exact List.append_inj h2 (eight_inj hm hn h1)
theorem encP_inj : ∀ {ms ns : List (List UInt8)}, small ms → small ns → encP ms = encP ns → ms = ns
  | [], [], _, _, _ => rfl
  | [], n :: ns, _, _, h => by
    have := congrArg List.length h
    rw [encP_cons] at this
    simp [eight_length, encP] at this
    omega
  | m :: ms, [], _, _, h => by
    have := congrArg List.length h
    rw [encP_cons] at this
    simp [eight_length, encP] at this
  | m :: ms, n :: ns, h1, h2, h => by
    rw [encP_cons, encP_cons] at h
    obtain ⟨rfl, h3⟩ := encP_step (h1 m (by simp)) (h2 n (by simp)) h
    rw [encP_inj (fun x hx => h1 x (by simp [hx])) (fun x hx => h2 x (by simp [hx])) h3]
/-- one that begins with another one of as many parts is that one -/
theorem encP_prefix : ∀ {ms ns : List (List UInt8)} {t : List UInt8}, small ms → small ns → ms.length = ns.length → encP ns ++ t = encP ms → ms = ns
  | [], [], _, _, _, _, _ => rfl
  | [], n :: ns, _, _, _, hl, _ => by simp at hl
  | m :: ms, [], _, _, _, hl, _ => by simp at hl
  | m :: ms, n :: ns, t, h1, h2, hl, h => by
    rw [encP_cons, encP_cons, List.append_assoc, List.append_assoc] at h
    obtain ⟨rfl, h3⟩ := encP_step (h2 n (by simp)) (h1 m (by simp)) h
    rw [encP_prefix (fun x hx => h1 x (by simp [hx])) (fun x hx => h2 x (by simp [hx])) (by simpa using hl) h3]
theorem len_inj {s t : List UInt8} (hs : s.length ≤ 32) (ht : t.length ≤ 32) (h : UInt8.ofNat s.length = UInt8.ofNat t.length) : s.length = t.length := by
  have := congrArg UInt8.toNat h
  simp at this
  omega
theorem pre_inj {s t : List UInt8} {ms ns : List (List UInt8)} (hs : s.length ≤ 32) (ht : t.length ≤ 32) (h1 : small ms) (h2 : small ns) : pre s ms = pre t ns ↔ s = t ∧ ms = ns := by
  constructor
  · intro h
    unfold pre at h
    injection h with h3 h4
    obtain ⟨h5, h6⟩ := List.append_inj h4 (len_inj hs ht h3)
    exact ⟨h5, encP_inj h1 h2 h6⟩
  · rintro ⟨rfl, rfl⟩; rfl
/-- no preimage begins with another one of the same tag and as many parts -/
theorem pre_apart {s : List UInt8} {ms ns : List (List UInt8)} (h1 : small ms) (h2 : small ns) (hl : ms.length = ns.length) (hn : ms ≠ ns) : (pre s ms).take (pre s ns).length ≠ pre s ns := by
  intro h
  have h4 : pre s ns ++ (pre s ms).drop (pre s ns).length = pre s ms := by
    have := List.take_append_drop (pre s ns).length (pre s ms)
    rwa [h] at this
  unfold pre at h4
  simp only [List.cons_append, List.append_assoc] at h4
  injection h4 with _ h5
  exact hn (encP_prefix h1 h2 hl (List.append_cancel_left h5))
theorem isTag_len {s : List UInt8} (h : isTag s = true) : 1 ≤ s.length ∧ s.length ≤ 32 := by
  unfold isTag at h
  simp only [Bool.and_eq_true, decide_eq_true_eq] at h
  exact h.2
end Go.Proofs.YthigegabdbkhiaaGreatDoor.Sha
namespace Go.Proofs.YthigegabdbkhiaaGreatDoor
open Go Vm
set_option maxRecDepth 100000
/-- the bytes of a text behind one byte of our own -/
theorem append_str {h : Heap} {g : Nat} {c : UInt8} {s : List UInt8} {ty : TypeId} (hg : Blk h g [u8v c] 5) (hs1 : 1 ≤ s.length) (hs2 : s.length ≤ 32) :
    RunsV Tryz.prog (Builtin.append_ #[33, 9] ty #[.slice (some ⟨g, 0, none⟩) 1 1, .string (bs s)]) h fun v' h' => OB h' v' (c :: s) ∧ ExtH h h' ∧ ∀ b, ob v' b → h.size ≤ b := by
  intro w hw
  subst hw
  obtain ⟨i0, hi, hz0, hz1, hz2⟩ := info_parts info8
  have hold := (Src.ofSlice (P := Tryz.prog) w (size := i0.size) (tx := 33) Tryz.underlying33 ⟨g, 0, none⟩ 1 1 [u8v c] (by rw [hz1]; rfl) (fun j u hj => by
    rw [add_none, cell_eq_rd]
    exact hg.rdN 0 [u8v c] rfl j u hj) (by simp [u8v, Value.oneCell'])).cellsD
  have hsz : (bs s).size = s.length := rfl
  have hsrc := Src.ofString (P := Tryz.prog) w (tx := 9) Tryz.underlying9 (bs s)
  rw [← hz1, hsz] at hsrc
  have hrun := run_append_grow_src (P := Tryz.prog) w 33 9 ty 5 i0 (.int .u8 0) Tryz.underlying33 hi hz0 (some ⟨g, 0, none⟩) 1 1 [u8v c] hold (.string (bs s)) s.length (byteCells (bs s)) hsrc (by omega) (by omega)
    (growslice_fits (by omega) (by rw [hz2]; omega))
  refine ⟨_, _, hrun, ⟨rfl, rfl, rfl⟩, ?_, alloc_ext w _, fun d hd' => by rw [ob_slice] at hd'; omega⟩
  have hb : [u8v c] ++ byteCells (bs s) = (c :: s).map u8v := by simp [byteCells, bs, u8v]
  have hm : 1 + s.length ≤ maxLen := by simp only [maxLen]; omega
  have := owns_grown (e := 5) (w := w) (z := .int .u8 0) (by rw [hz1]; rfl) hz1 (xs := (c :: s).map u8v) (N := 1 + s.length) (by simp; omega) (grownCap_ge w (1 + s.length) 1 5) (grownCap_le_maxLen w (1 + s.length) 1 5 hm)
  rw [hb]
  unfold OB
  rw [show (c :: s).length = 1 + s.length by simp; omega]
  exact this
theorem PD.fix {D : Nat → Prop} {h : Heap} {x : Value} {ms : List (List UInt8)} {pv : List Value} (H : PD D h x ms pv) : ∃ a c, x = .slice a ms.length c ∧ ms.length ≤ maxLen := by
  rcases H.form with ⟨rfl, rfl⟩ | ⟨A, cap, rfl, hc, hm, hr⟩
  · exact ⟨_, _, rfl, Nat.zero_le _⟩
  · exact ⟨_, _, rfl, by omega⟩
theorem PD.row {D : Nat → Prop} {h : Heap} {a : Option Addr} {n c : Nat} {ms : List (List UInt8)} {pv : List Value} (hx : PD D h (.slice a n c) ms pv) (t : Nat) (hlt : t < ms.length) :
    ∃ b o m v, a = some ⟨b, o, none⟩ ∧ ms[t]? = some m ∧ rd h ⟨b, o + t, none⟩ = some v ∧ RD D h v m := by
  obtain ⟨v, h1, h2⟩ := hx.part t ms[t] (List.getElem?_eq_getElem hlt)
  rcases hx.form with ⟨h3, h4⟩ | ⟨A, cap, h3, hc, hm, hr⟩
  · rw [h4] at hlt; simp at hlt
  · injection h3 with h3
    have hs := hr.spot (by intro e; subst e; simp at h1)
    rw [hs, rdA_plain] at hr
    exact ⟨A.block, A.off, _, v, by rw [← hs]; exact h3, List.getElem?_eq_getElem hlt, hr t v h1, h2⟩
def accP (s : List UInt8) (ms : List (List UInt8)) (t : Nat) : List UInt8 := Sha.pre s (ms.take t)
theorem accP_succ {s : List UInt8} {ms : List (List UInt8)} {t : Nat} {m : List UInt8} (h : ms[t]? = some m) : accP s ms (t + 1) = accP s ms t ++ Sha.eight m.length ++ m := by
  unfold accP Sha.pre Sha.encP
  rw [List.take_add_one, h]
  simp
theorem encP_length (ms : List (List UInt8)) : (Sha.encP ms).length = 8 * ms.length + ms.flatten.length := by
  induction ms with
  | nil => rfl
  | cons m ms ih =>
    rw [Sha.encP_cons]
    simp only [List.length_append, Sha.eight_length, ih, List.length_cons, List.flatten_cons]
    omega
theorem accP_le (s : List UInt8) (ms : List (List UInt8)) (t : Nat) : (accP s ms t).length ≤ 1 + s.length + 8 * ms.length + ms.flatten.length := by
  have h1 := upto_le ms t
  unfold upto at h1
  unfold accP Sha.pre
  simp only [List.length_cons, List.length_append, encP_length]
  have : (ms.take t).length ≤ ms.length := by rw [List.length_take]; omega
  omega
theorem preimage_no {s : List UInt8} {x : Value} (hs : s.length ≤ maxLen) (hT : Sha.isTag s = false) : FxP Tryz.prog 81 #[.string (bs s), x] (.tuple #[.slice none 0 0, .int .i64 22]) := by
  intro h
  refine fn_of 35 Tryz.func81 rfl (by kernel_rfl) rfl (by simp) ?_
  refine cw_seq (cw_region rfl ?_)
  refine cw_seq (cw_seq (cw_region rfl ?_))
  conv => whnf
  refine ⟨_, rfl, _, tagged_fn s hs h, ?_⟩
  rw [hT]
  rintro _ h0 ⟨rfl, e⟩
  subst h0
  conv => whnf
  refine cw_true rfl (cw_seq (cw_region rfl ?_))
  exact cw_ret ⟨rfl, rfl⟩
theorem preimage_fn {D : Nat → Prop} {h : Heap} {s : List UInt8} {x : Value} {ms : List (List UInt8)} {pv : List Value} (hx : PD D h x ms pv) (hD : ∀ b, D b → b < h.size) (hT : Sha.isTag s = true)
    (hms : ms.flatten.length + ms.length ≤ 1000000000000) :
    Fx Tryz.prog 81 #[.string (bs s), x] h fun u h' => ∃ v', u = .tuple #[v', .int .i64 0] ∧ OB h' v' (Sha.pre s ms) ∧ ExtH h h' ∧ ∀ b, ob v' b → h.size ≤ b := by
  refine fn_of 35 Tryz.func81 rfl (by kernel_rfl) rfl (by simp) ?_
  obtain ⟨hs1, hs2⟩ := Sha.isTag_len hT
  refine cw_seq (cw_region rfl ?_)
  refine cw_seq (cw_seq (cw_region rfl ?_))
  conv => whnf
  refine ⟨_, rfl, _, tagged_fn s (by simp only [maxLen]; omega) h, ?_⟩
  rw [hT]
  rintro _ h0 ⟨rfl, e⟩
  subst h0
  conv => whnf
  refine cw_false rfl (cw_skip ?_)
  refine cw_seq (cw_region rfl ?_)
  conv => whnf
  have ew : Value.int .u8 (IntKind.u8.wrap (s.length : Int)) = u8v (UInt8.ofNat s.length) := congrArg (Value.int .u8) (wrap8_nat s.length)
  refine ⟨_, rfl, #[u8v (UInt8.ofNat s.length)], 5, fun w => (congrArg (fun v => (Instr.buildSlice 33 1 #[(0, v)]).run Tryz.prog w) ew).trans (by kernel_rfl), ?_⟩
  intro h1 n1
  conv => whnf
  refine ⟨_, rfl, _, append_str (ty := 33) n1.blk hs1 hs2, ?_⟩
  rintro v2 h2 ⟨o2, x2, f2⟩
  have z1 := n1.size; have z2 := x2.size
  have x02 := n1.ext.trans x2
  replace o2 : OB h2 v2 (accP s ms 0) := by
    have : accP s ms 0 = UInt8.ofNat s.length :: s := by simp [accP, Sha.pre, Sha.encP]
    rw [this]; exact o2
  replace f2 : ∀ b, ob v2 b → h.size ≤ b := fun b hb => by have := f2 b hb; omega
  clear n1
  obtain ⟨a, c, hfx, hlen⟩ := hx.fix
  have hmax : maxLen < 9223372036854775808 := by decide
  subst hfx
  refine cw_seq (cw_seq (cw_region rfl ?_))
  conv => whnf
  refine cw_block ?_
  refine cw_loop (S := Nat × Value) (fun q => [(6, q.2), (18, .slice a ms.length c), (19, .int .i64 (ms.length : Int)), (20, .int .i64 (q.1 : Int))])
    (fun q h' => q.1 ≤ ms.length ∧ OB h' q.2 (accP s ms q.1) ∧ ExtH h h' ∧ ∀ b, ob q.2 b → h.size ≤ b) (fun q => ms.length - q.1) (0, v2) ⟨rfl, rfl, rfl, rfl, trivial⟩ ⟨Nat.zero_le _, o2, x02, f2⟩ ?_
  clear o2 x02 f2 x2 z1 z2
  rintro ⟨t, v⟩ h3 ⟨ht, o3, x3, f3⟩
  simp only [] at ht o3 f3
  have hacc := accP_le s ms t
  refine cw_seq (cw_region rfl ?_)
  by_cases hlt : t < ms.length
  · refine cw_seq (cw_yes rfl (by show (t : Int) < (ms.length : Int); omega) (cw_skip ?_))
    have hx3 := hx.keep (x3.chg (S := fun _ => False)) (fun _ _ e => e)
    obtain ⟨b, o, m, u, rfl, hm, hr, hu⟩ := hx3.row t hlt
    have hmm := accP_succ (s := s) hm
    have hac1 := accP_le s ms (t + 1)
    have hml : m.length ≤ ms.flatten.length := by
      have h1 := upto_succ ms t m hm
      have h2 := upto_le ms (t + 1)
      rw [h1, List.length_append] at h2
      omega
    refine cw_seq (cw_block (cw_seq (cw_region rfl ?_)))
    conv => whnf
    refine ⟨⟨by omega, by show (t : Int) < ((ms.length : Nat) : Int); omega⟩, ?_⟩
    conv => whnf
    refine ⟨_, hr, ?_⟩
    obtain ⟨ua, uc, hue⟩ := hu.1.len
    obtain ⟨va, vc, hve⟩ := o3.r.len
    subst hue hve
    conv => whnf
    refine cw_seq (cw_region rfl ?_)
    conv => whnf
    rw [u64_in (m.length : Int) m.length rfl (by omega)]
    refine ⟨_, rfl, _, eight_fn m.length h3, ?_⟩
    rintro v4 h4 ⟨o4, x4, f4⟩
    have z3 := x3.size; have z4 := x4.size
    obtain ⟨a4, c4, e4⟩ := o4.r.len
    have e8 := Sha.eight_length m.length
    subst e4
    conv => whnf
    refine ⟨_, rfl, _, append_bytes (ty := 33) (OwnS.more o3 x4) o4.r (by omega), ?_⟩
    rintro v5 h5 ⟨o5, c5, f5⟩
    have z5 := c5.size
    obtain ⟨a5, k5, e5⟩ := o5.r.len
    subst e5
    have hu5 : RD D h5 (.slice ua m.length uc) m := (hu.keep (x4.chg (S := fun _ => False)) (fun _ _ e => e)).keep c5 (fun b hb e => by have := hD b hb; have := f3 b e; omega)
    refine cw_region rfl ?_
    conv => whnf
    have ll : (accP s ms t ++ Sha.eight m.length).length = (accP s ms t).length + 8 := by rw [List.length_append, e8]
    have ll2 : (accP s ms (t + 1)).length = (accP s ms t).length + 8 + m.length := by rw [hmm, List.length_append, ll]
    refine ⟨_, rfl, _, append_bytes (ty := 33) o5 hu5.1 (by omega), ?_⟩
    rintro v6 h6 ⟨o6, c6, f6⟩
    have z6 := c6.size
    rw [← hmm] at o6
    refine cw_region rfl ?_
    have g5 : ∀ b, ob (.slice a5 (accP s ms t ++ Sha.eight m.length).length k5) b → h.size ≤ b := fun b hb => (f5 b hb).elim (fun e => f3 b e) (fun e => by omega)
    exact ⟨(t + 1, v6), ⟨rfl, rfl, rfl, slot_i64 _ _ (by simp only []; omega) (by simp only []; omega), trivial⟩, ⟨hlt, o6, ⟨by omega, fun b hb => by
        rw [c6.block b (by omega) (fun e => by have := g5 b e; omega), c5.block b (by omega) (fun e => by have := f3 b e; omega), x4.block b (by omega), x3.block b hb]⟩,
      fun b hb => (f6 b hb).elim (fun e => g5 b e) (fun e => by omega)⟩, by show ms.length - (t + 1) < ms.length - t; omega⟩
  · refine cw_seq (cw_no rfl (by show ¬ (t : Int) < (ms.length : Int); omega) (cw_exit ?_))
    have tn : t = ms.length := by omega
    subst tn
    refine cw_seq (cw_region rfl ?_)
    refine cw_ret ⟨_, rfl, ?_, x3, f3⟩
    have : accP s ms ms.length = Sha.pre s ms := by unfold accP; rw [List.take_length]
    rw [← this]
    exact o3
end Go.Proofs.YthigegabdbkhiaaGreatDoor
namespace Go.Proofs.YthigegabdbkhiaaGreatDoor
open Go Vm
set_option maxRecDepth 100000
theorem rbeginning_fn (h : Heap) : Fx Tryz.prog 159 #[] h fun v h' => v = .agg (Sha.H0.list.map u32v).toArray ∧ ExtH h h' := by
  refine fn_of 2 Tryz.func159 rfl (by kernel_rfl) rfl (by simp) ?_
  refine cw_seq (cw_region rfl ?_)
  conv => whnf
  intro h1 n1
  refine cw_seq (cw_region rfl ?_)
  conv => whnf
  refine ⟨_, rfl, (Sha.H0.list.map u32v).toArray, fun w => by kernel_rfl, ?_⟩
  conv => whnf
  refine ⟨_, _, n1.blk, ⟨by decide, by decide, by decide⟩, ?_⟩
  intro h2 w2
  refine cw_ret ?_
  refine ⟨_, ?_, w2.new.all, ?_⟩
  · decide
  refine ⟨?_, ?_⟩
  · rfl
  exact ⟨by rw [w2.size, n1.size]; omega, fun b hb => by rw [w2.block b (by omega), n1.block b hb]⟩
theorem stateC_one (s : Sha.S8) (v : Value) (n : Nat) (hv : v.oneCell' = true) : ∀ x ∈ (stateC s v n).toArray.toList, x.oneCell' = true := by
  intro x hx
  simp only [stateC, List.mem_cons, List.not_mem_nil, or_false] at hx
  rcases hx with rfl | rfl | rfl | rfl | rfl | rfl | rfl | rfl | rfl | rfl <;> first | exact hv | rfl
theorem rnew_fn (h : Heap) : Fx Tryz.prog 120 #[] h fun v h' => v = .agg (stateC Sha.H0 (.slice none 0 0) 0).toArray ∧ ExtH h h' := by
  refine fn_of 3 Tryz.func120 rfl (by kernel_rfl) rfl (by simp) ?_
  refine cw_seq (cw_region rfl ?_)
  conv => whnf
  intro h1 n1
  have y1 : Blk h1 h.size (stateC ⟨0, 0, 0, 0, 0, 0, 0, 0⟩ (.slice none 0 0) 0) 253 := n1.blk
  have z1 := n1.size
  refine cw_seq (cw_region rfl ?_)
  conv => whnf
  refine ⟨_, rfl, _, rbeginning_fn h1, ?_⟩
  rintro _ h2 ⟨rfl, x2⟩
  have z2 := x2.size
  conv => whnf
  refine ⟨_, rfl, (stateC Sha.H0 (.slice none 0 0) 0).toArray, fun w => by kernel_rfl, ?_⟩
  conv => whnf
  refine ⟨_, _, x2.blk y1, ⟨(show (10 : Nat) ≤ 10 by decide), by rfl, stateC_one _ _ _ rfl⟩, ?_⟩
  intro h3 w3
  replace w3 := w3.cast (l' := stateC Sha.H0 (.slice none 0 0) 0) (by rfl)
  have z3 := w3.size
  refine cw_ret ?_
  conv => whnf
  exact ⟨_, by rfl, w3.new.all, rfl, ⟨by omega, fun b hb => by rw [w3.block b (by omega), x2.block b (by omega), n1.block b hb]⟩⟩
theorem copy_fn {h : Heap} {s : Sha.S8} {v : Value} {l : List UInt8} {n : Nat} (hb : RB h v l) (hl : l.length ≤ 140737488355328) :
    Fx Tryz.prog 157 #[.agg (stateC s v n).toArray] h fun u h' => ∃ v', u = .agg (stateC s v' n).toArray ∧ OB h' v' l ∧ ExtH h h' ∧ ∀ b, ob v' b → h.size ≤ b := by
  refine fn_of 11 Tryz.func157 rfl (by kernel_rfl) rfl (by simp) ?_
  refine cw_seq (cw_region rfl ?_)
  conv => whnf
  intro h1 n1
  conv => whnf
  intro h2 n2
  have y1 : Blk h2 h.size (stateC s v n) 253 := n2.ext.blk n1.blk
  have y2 : Blk h2 h1.size (stateC ⟨0, 0, 0, 0, 0, 0, 0, 0⟩ (.slice none 0 0) 0) 253 := n2.blk
  have z1 := n1.size; have z2 := n2.size
  have x2 := n1.ext.trans n2.ext
  clear n1 n2
  generalize hh1 : h1.size = b1 at *
  refine cw_seq (cw_region rfl ?_)
  refine cw_seq (cw_region rfl ?_)
  conv => whnf
  refine ⟨_, y1.rd (o := 8) rfl, ?_⟩
  conv => whnf
  refine ⟨_, rfl, _, append_bytes (ty := 33) (v := .slice none 0 0) (OB.nil h2) (hb.more x2) (by simp; omega), ?_⟩
  rintro v3 h3 ⟨o3, c3, f3⟩
  rw [List.nil_append] at o3
  have x3 : ExtH h2 h3 := c3.ext (fun b hb => (ob_nil hb).elim)
  have z3 := x3.size
  obtain ⟨a3, k3, e3⟩ := o3.r.len
  subst e3
  refine cw_seq (cw_region rfl ?_)
  conv => whnf
  refine ⟨_, _, x3.blk y1, (show (8 : Nat) < 10 by decide), ?_⟩
  intro h4 w4
  generalize hv3 : Value.slice a3 l.length k3 = v3 at *
  replace w4 := w4.cast (l' := stateC s v3 n) rfl
  have z4 := w4.size
  refine cw_seq (cw_region rfl ?_)
  conv => whnf
  refine ⟨_, by rfl, w4.new.all, ?_⟩
  conv => whnf
  refine ⟨_, _, w4.blk (x3.blk y2) (by omega), ⟨(show (10 : Nat) ≤ 10 by decide), by rfl, stateC_one _ _ _ (by subst hv3; rfl)⟩, ?_⟩
  intro h5 w5
  replace w5 := w5.cast (l' := stateC s v3 n) (by rfl)
  have z5 := w5.size
  have fr : ∀ b, ob v3 b → h2.size ≤ b := fun b hb => (f3 b hb).elim (fun e => (ob_nil e).elim) id
  refine cw_ret ?_
  conv => whnf
  refine ⟨_, by rfl, w5.new.all, ?_⟩
  exact ⟨v3, rfl, OwnS.keep (OwnS.keep o3 w4.chg (fun b hb e => by have := fr b hb; omega)) w5.chg (fun b hb e => by have := fr b hb; omega),
    ⟨by omega, fun b hb => by rw [w5.block b (by omega), w4.block b (by omega), x3.block b (by omega), x2.block b hb]⟩, fun b hb => by have := fr b hb; omega⟩
theorem joined_fn {D : Nat → Prop} {h : Heap} {x : Value} {ms : List (List UInt8)} {pv : List Value} (hx : PD D h x ms pv) (hms : ms.flatten.length ≤ 100000000000000) :
    Fx Tryz.prog 121 #[x] h fun u h' => OB h' u ms.flatten ∧ ExtH h h' ∧ ∀ b, ob u b → h.size ≤ b := by
  refine fn_of 18 Tryz.func121 rfl (by kernel_rfl) rfl (by simp) ?_
  obtain ⟨a, c, hfx, hlen⟩ := hx.fix
  have hmax : maxLen < 9223372036854775808 := by decide
  subst hfx
  refine cw_seq (cw_region rfl ?_)
  refine cw_seq (cw_region rfl ?_)
  refine cw_seq (cw_seq (cw_region rfl ?_))
  conv => whnf
  refine cw_block ?_
  refine cw_loop (S := Nat × Value) (fun q => [(0, .slice a ms.length c), (3, q.2), (4, .int .i64 (q.1 : Int))])
    (fun q h' => q.1 ≤ ms.length ∧ OB h' q.2 (upto ms q.1) ∧ ExtH h h' ∧ ∀ b, ob q.2 b → h.size ≤ b) (fun q => ms.length - q.1) (0, .slice none 0 0) ⟨rfl, rfl, rfl, trivial⟩
    ⟨Nat.zero_le _, OB.nil h, ExtH.refl _, fun b hb => (ob_nil hb).elim⟩ ?_
  rintro ⟨t, v⟩ h1 ⟨ht, o1, x1, f1⟩
  simp only [] at ht o1 f1
  refine cw_seq (cw_seq (cw_region rfl ?_))
  conv => whnf
  by_cases hlt : t < ms.length
  · refine cw_yes rfl (by show (t : Int) < (ms.length : Int); omega) (cw_skip ?_)
    have hx1 := hx.keep (x1.chg (S := fun _ => False)) (fun _ _ e => e)
    obtain ⟨b, o, m, u, rfl, hm, hr, hu⟩ := hx1.row t hlt
    have hsucc := upto_succ ms t m hm
    have hle := upto_le ms (t + 1)
    have hle' : (upto ms (t + 1)).length = (upto ms t).length + m.length := by rw [hsucc]; simp
    refine cw_seq (cw_block (cw_region rfl ?_))
    conv => whnf
    refine ⟨⟨by omega, by show (t : Int) < ((ms.length : Nat) : Int); omega⟩, ?_⟩
    conv => whnf
    refine ⟨_, hr, ?_⟩
    conv => whnf
    refine ⟨_, rfl, _, append_bytes (ty := 33) o1 hu.1 (by omega), ?_⟩
    rintro v2 h2 ⟨o2, c2, f2⟩
    rw [← hsucc] at o2
    have z1 := x1.size; have z2 := c2.size
    refine cw_region rfl ?_
    exact ⟨(t + 1, v2), ⟨rfl, rfl, slot_i64 _ _ (by simp only []; omega) (by simp only []; omega), trivial⟩, ⟨hlt, o2, ⟨by omega, fun b hb => by rw [c2.block b (by omega) (fun e => by have := f1 b e; omega), x1.block b hb]⟩,
      fun b hb => (f2 b hb).elim (fun e => f1 b e) (fun e => by omega)⟩, by show ms.length - (t + 1) < ms.length - t; omega⟩
  · refine cw_no rfl (by show ¬ (t : Int) < (ms.length : Int); omega) (cw_exit ?_)
    have tn : t = ms.length := by omega
    subst tn
    rw [upto_all] at o1
    refine cw_seq (cw_region rfl ?_)
    exact cw_ret ⟨o1, x1, f1⟩
theorem rest_drop (l : List UInt8) (h : 64 ≤ l.length) : Sha.rest (l.drop 64) = Sha.rest l := by
  unfold Sha.rest
  rw [List.drop_drop, List.length_drop]
  congr 1
  omega
def bcells (l : List UInt8) (t : Nat) : List Value := (l.take t).map u8v ++ List.replicate (64 - t) (u8v 0)
theorem bcells_set (l : List UInt8) (t : Nat) (ht : t < 64) (hl : 64 ≤ l.length) : (bcells l t).set t (u8v (l.getD t 0)) = bcells l (t + 1) := by
  unfold bcells
  rw [set_snoc _ _ _ _ _ (by simp; omega) (by omega), List.take_add_one, List.getElem?_eq_getElem (show t < l.length by omega), List.getD_eq_getElem?_getD, List.getElem?_eq_getElem (show t < l.length by omega)]
  rw [show 64 - t - 1 = 64 - (t + 1) by omega]
  simp only [Option.toList_some, List.map_append, List.map_cons, List.map_nil, Option.getD_some]
theorem rtaken_fn {h : Heap} {s : Sha.S8} {v x : Value} {l m : List UInt8} {n : Nat} (T : Tab h) (hb : RB h v l) (hx : RB h x m) (hl : l.length + m.length ≤ 100000000000000) (hn : n + m.length < 18446744073709551616) :
    Fx Tryz.prog 119 #[.agg (stateC s v n).toArray, x] h fun u h' => ∃ v', u = .agg (stateC (Sha.feed s (l ++ m)) v' (n + m.length)).toArray ∧ OB h' v' (Sha.rest (l ++ m)) ∧ ExtH h h' ∧ ∀ b, ob v' b → h.size ≤ b := by
  refine fn_of 50 Tryz.func119 rfl (by kernel_rfl) rfl (by simp) ?_
  obtain ⟨xa, xc, hxe⟩ := hx.len
  refine cw_seq (cw_region rfl ?_)
  conv => whnf
  intro h1 n1
  conv => whnf
  intro h2 n2
  have y1 : Blk h2 h.size (stateC s v n) 253 := n2.ext.blk n1.blk
  have y2 : Blk h2 h1.size (stateC ⟨0, 0, 0, 0, 0, 0, 0, 0⟩ (.slice none 0 0) 0) 253 := n2.blk
  have z1 := n1.size; have z2 := n2.size
  have x2 := n1.ext.trans n2.ext
  clear n1 n2
  generalize hh1 : h1.size = b1 at *
  refine cw_seq (cw_region rfl ?_)
  conv => whnf
  refine ⟨_, by rfl, y1.all, ?_⟩
  conv => whnf
  refine ⟨_, rfl, _, copy_fn (hb.more x2) (by omega), ?_⟩
  rintro _ h3 ⟨v3, rfl, o3, x3, f3⟩
  have z3 := x3.size
  conv => whnf
  refine ⟨_, _, x3.blk y1, ⟨(show (10 : Nat) ≤ 10 by decide), by rfl, stateC_one _ _ _ (by obtain ⟨a, k, e⟩ := o3.r.len; subst e; rfl)⟩, ?_⟩
  intro h4 w4
  replace w4 := w4.cast (l' := stateC s v3 n) (by rfl)
  have z4 := w4.size
  have o4 : OB h4 v3 l := OwnS.keep o3 w4.chg (fun b hb e => by have := f3 b hb; omega)
  have x4 : ExtH h h4 := ⟨by omega, fun b hb => by rw [w4.block b (by omega), x3.block b (by omega), x2.block b hb]⟩
  refine cw_seq (cw_region rfl ?_)
  conv => whnf
  refine ⟨_, w4.new.rd (o := 8) rfl, ?_⟩
  conv => whnf
  refine ⟨_, rfl, _, append_bytes (ty := 33) o4 (hx.more x4) (by omega), ?_⟩
  rintro v5 h5 ⟨o5, c5, f5⟩
  have z5 := c5.size
  have np : ¬ ob v3 h.size := fun e => by have := f3 _ e; omega
  have g5 : ∀ b, ob v5 b → h2.size ≤ b := fun b hb => (f5 b hb).elim (fun e => f3 b e) (fun e => by omega)
  obtain ⟨a5, k5, e5⟩ := o5.r.len
  subst e5
  conv => whnf
  refine ⟨_, _, c5.blk w4.new np, (show (8 : Nat) < 10 by decide), ?_⟩
  intro h6 w6
  generalize hv5 : Value.slice a5 (l ++ m).length k5 = v5 at *
  replace w6 := w6.cast (l' := stateC s v5 n) rfl
  have z6 := w6.size
  have o6 : OB h6 v5 (l ++ m) := OwnS.keep o5 w6.chg (fun b hb e => by have := g5 b hb; omega)
  refine cw_seq (cw_region rfl ?_)
  subst hxe
  conv => whnf
  refine ⟨_, w6.new.rd (o := 9) rfl, ?_⟩
  have e1 := u64_in (m.length : Int) m.length rfl (by omega)
  have e2 := u64_in (((n : Nat) : Int) + (m.length : Int)) (n + m.length) (by omega) (by omega)
  conv => whnf
  rw [e1, e2]
  refine ⟨_, _, w6.new, (show (9 : Nat) < 10 by decide), ?_⟩
  intro h7 w7
  replace w7 := w7.cast (l' := stateC s v5 (n + m.length)) rfl
  have z7 := w7.size
  have o7 : OB h7 v5 (l ++ m) := OwnS.keep o6 w7.chg (fun b hb e => by have := g5 b hb; omega)
  have x7 : ExtH h h7 := ⟨by omega, fun b hb => by rw [w7.block b (by omega), w6.block b (by omega), c5.block b (by omega) (fun e => by have := f3 b e; omega), x4.block b hb]⟩
  have y7 := w7.new
  have yr : Blk h7 b1 (stateC ⟨0, 0, 0, 0, 0, 0, 0, 0⟩ (.slice none 0 0) 0) 253 := w7.blk (w6.blk (c5.blk (w4.blk (x3.blk y2) (by omega)) (fun e => by have := f3 _ e; omega)) (by omega)) (by omega)
  have hlm : (l ++ m).length ≤ 100000000000000 := by simpa using hl
  generalize n + m.length = N at *
  generalize l ++ m = lm at *
  clear w4 w6 w7 c5 o3 o4 o5 o6 y1 y2 hv5
  refine cw_seq (cw_block ?_)
  refine cw_loop (S := Sha.S8 × Value × List UInt8) (fun q => [(2, .pointer (some ⟨h.size, 0, none⟩)), (4, .pointer (some ⟨b1, 0, none⟩))])
    (fun q h' => q.2.2.length ≤ lm.length ∧ Sha.feed q.1 q.2.2 = Sha.feed s lm ∧ Sha.rest q.2.2 = Sha.rest lm ∧ Blk h' h.size (stateC q.1 q.2.1 N) 253 ∧ Blk h' b1 (stateC ⟨0, 0, 0, 0, 0, 0, 0, 0⟩ (.slice none 0 0) 0) 253 ∧
      OB h' q.2.1 q.2.2 ∧ ExtH h h' ∧ ∀ b, ob q.2.1 b → h2.size ≤ b) (fun q => q.2.2.length) (s, v5, lm) ⟨rfl, rfl, trivial⟩ ⟨Nat.le_refl _, rfl, rfl, y7, yr, o7, x7, g5⟩ ?_
  clear y7 yr o7 x7 g5 f5 z3 z4 z5 z6 z7 h3 h4 h5 h6 h7 x3 x4 f3 np e1 e2
  rintro ⟨s1, v1, l1⟩ h3 ⟨hle, hf, hr, y1, y2, o1, x3, f1⟩
  simp only [] at hle hf hr y1 y2 o1 f1
  have z3 := x3.size
  have lp := y1.lt
  have lr := y2.lt
  obtain ⟨va, vc, hve⟩ := o1.r.len
  refine cw_seq (cw_seq (cw_region rfl ?_))
  conv => whnf
  refine ⟨_, y1.rd (o := 8) rfl, ?_⟩
  subst hve
  conv => whnf
  by_cases h64 : 64 ≤ l1.length
  · refine cw_yes rfl (by omega) (cw_skip ?_)
    refine cw_block (cw_seq (cw_region rfl ?_))
    conv => whnf
    intro h4 n4
    have z4 := n4.size
    have y4 : Blk h4 h3.size (bcells l1 0) 287 := n4.blk
    have x34 := n4.ext
    clear n4
    refine cw_seq (cw_seq (cw_region rfl ?_))
    conv => whnf
    refine cw_block ?_
    refine cw_loop (S := Nat) (fun t => [(2, .pointer (some ⟨h.size, 0, none⟩)), (4, .pointer (some ⟨b1, 0, none⟩)), (5, .pointer (some ⟨h3.size, 0, none⟩)), (6, .int .i64 (t : Int))])
      (fun t h' => t ≤ 64 ∧ ExtH h3 h' ∧ Blk h' h3.size (bcells l1 t) 287) (fun t => 64 - t) 0 ⟨rfl, rfl, rfl, rfl, trivial⟩ ⟨by omega, x34, y4⟩ ?_
    clear y4 x34 z4 h4
    rintro t h4 ⟨ht, x34, y4⟩
    have z4 := x34.size
    refine cw_seq (cw_seq (cw_region rfl ?_))
    conv => whnf
    by_cases hlt : t < 64
    · refine cw_yes rfl (by omega) (cw_skip ?_)
      obtain ⟨gb, go, gc, hge, hgr⟩ := RB.get (RB.more o1.r x34) t (by omega)
      injection hge with hge _ hgc
      subst hge hgc
      refine cw_seq (cw_block (cw_region rfl ?_))
      conv => whnf
      refine ⟨_, (x34.blk y1).rd (o := 8) rfl, ?_⟩
      conv => whnf
      refine ⟨⟨by omega, by omega⟩, ?_⟩
      conv => whnf
      refine ⟨_, hgr, ?_⟩
      conv => whnf
      refine ⟨⟨by omega, by omega⟩, ?_⟩
      conv => whnf
      refine ⟨_, _, y4, by simp [bcells]; omega, ?_⟩
      intro h5 w5
      replace w5 := w5.cast (l' := bcells l1 (t + 1)) (by
        rw [← bcells_set l1 t hlt h64]
        exact congrArg (fun i => List.set (bcells l1 t) i _) (show 0 + ((t : Int)).toNat = t by omega))
      have z5 := w5.size
      refine cw_region rfl ?_
      exact ⟨t + 1, ⟨rfl, rfl, rfl, slot_i64 _ _ (by omega) (by omega), trivial⟩, ⟨by omega, ⟨by omega, fun b hb => by rw [w5.block b (by omega), x34.block b hb]⟩, w5.new⟩, by omega⟩
    · refine cw_no rfl (by omega) (cw_exit ?_)
      have t64 : t = 64 := by omega
      subst t64
      have e64 : bcells l1 64 = (l1.take 64).map u8v := by simp [bcells]
      rw [e64] at y4
      have l64 : (l1.take 64).length = 64 := by rw [List.length_take]; omega
      have y14 := x34.blk y1
      have y24 := x34.blk y2
      have o4 := OwnS.more o1 x34
      refine cw_seq (cw_region rfl ?_)
      conv => whnf
      refine ⟨s1.list.map u32v, by rfl, y14.rdN 0 _ rfl, ?_⟩
      conv => whnf
      refine ⟨_, Eq.trans (b := 64) (by simp; omega) rfl, y4.all, ?_⟩
      conv => whnf
      refine ⟨_, rfl, _, rcompress_fn s1 (l1.take 64) l64 h4 (T.more (x3.trans x34)), ?_⟩
      rintro _ h5 ⟨rfl, x5⟩
      have z5 := x5.size
      conv => whnf
      refine ⟨_, _, x5.blk y14, ⟨(show (8 : Nat) ≤ 10 by decide), by rfl, by simp [u32v, Value.oneCell', Sha.S8.list]⟩, ?_⟩
      intro h6 w6
      replace w6 := w6.cast (l' := stateC (Sha.compress s1 (l1.take 64)) (.slice va l1.length vc) N) (by rfl)
      have z6 := w6.size
      refine cw_seq (cw_region rfl ?_)
      refine cw_seq (cw_region rfl ?_)
      conv => whnf
      refine ⟨_, w6.new.rd (o := 8) rfl, ?_⟩
      conv => whnf
      have o6 := OwnS.keep (OwnS.more o4 x5) w6.chg (fun b hb e => by have := f1 b hb; omega)
      obtain ⟨g1, A1, hA1, hR1⟩ := RB.cut (OwnS.src o6) 64 l1.length h64 (Nat.le_refl _) (x := ((64 : Nat) : Int)) rfl (y := (l1.length : Int)) rfl
      refine ⟨g1, A1, hA1, ?_⟩
      conv => whnf
      refine ⟨_, rfl, _, append_bytes (ty := 33) (v := .slice none 0 0) (OB.nil h6) hR1 (by simp; omega), ?_⟩
      rintro v7 h7 ⟨o7, c7, f7⟩
      have ed : [] ++ (l1.drop 64).take (l1.length - 64) = l1.drop 64 := by
        rw [List.nil_append, List.take_of_length_le (by simp)]
      rw [ed] at o7
      have x7 : ExtH h6 h7 := c7.ext (fun b hb => (ob_nil hb).elim)
      have z7 := x7.size
      have f7' : ∀ b, ob v7 b → h6.size ≤ b := fun b hb => (f7 b hb).elim (fun e => (ob_nil e).elim) id
      obtain ⟨a7, k7, e7⟩ := o7.r.len
      subst e7
      refine cw_region rfl ?_
      conv => whnf
      refine ⟨_, _, x7.blk w6.new, (show (8 : Nat) < 10 by decide), ?_⟩
      intro h8 w8
      generalize hv7 : Value.slice a7 (l1.drop 64).length k7 = v7 at *
      replace w8 := w8.cast (l' := stateC (Sha.compress s1 (l1.take 64)) v7 N) rfl
      have z8 := w8.size
      refine ⟨(Sha.compress s1 (l1.take 64), v7, l1.drop 64), ⟨rfl, rfl, trivial⟩, ⟨by simp; omega, ?_, ?_, w8.new, ?_, ?_, ?_, ?_⟩, by simp; omega⟩
      · rw [← hf, Sha.feed_block s1 l1 h64]
      · rw [← hr]; exact rest_drop l1 h64
      · exact w8.blk (x7.blk (w6.blk (x5.blk y24) (by omega))) (by omega)
      · exact OwnS.keep o7 w8.chg (fun b hb e => by have := f7' b hb; omega)
      · exact ⟨by omega, fun b hb => by rw [w8.block b (by omega), x7.block b (by omega), w6.block b (by omega), x5.block b (by omega), x34.block b (by omega), x3.block b hb]⟩
      · intro b hb
        have := f7' b hb
        omega
  · refine cw_no rfl (by omega) (cw_exit ?_)
    rw [Sha.feed_lt s1 (by omega)] at hf
    rw [Sha.rest_short (by omega)] at hr
    subst hf hr
    refine cw_seq (cw_region rfl ?_)
    conv => whnf
    refine ⟨_, by rfl, y1.all, ?_⟩
    conv => whnf
    refine ⟨_, _, y2, ⟨(show (10 : Nat) ≤ 10 by decide), by rfl, stateC_one _ _ _ rfl⟩, ?_⟩
    intro h4 w4
    have z4 := w4.size
    replace w4 := w4.cast (l' := stateC (Sha.feed s lm) (.slice va (Sha.rest lm).length vc) N) (by rfl)
    refine cw_ret ?_
    conv => whnf
    refine ⟨_, by rfl, w4.new.all, ?_⟩
    exact ⟨_, rfl, OwnS.keep o1 w4.chg (fun b hb e => by have := f1 b hb; omega), ⟨by omega, fun b hb => by rw [w4.block b (by omega), x3.block b hb]⟩, fun b hb => by have := f1 b hb; omega⟩
end Go.Proofs.YthigegabdbkhiaaGreatDoor
namespace Go.Proofs.YthigegabdbkhiaaGreatDoor
open Go Vm
set_option maxRecDepth 100000
theorem bytes_get (s : Sha.S8) (j k : Nat) (hj : j < 8) (hk : k < 4) : (Sha.bytes s).getD (4 * j + k) 0 = UInt8.ofNat ((s.list.getD j 0).toNat / 2 ^ (24 - 8 * k)) := by
  have h1 : j = 0 ∨ j = 1 ∨ j = 2 ∨ j = 3 ∨ j = 4 ∨ j = 5 ∨ j = 6 ∨ j = 7 := by omega
  have h2 : k = 0 ∨ k = 1 ∨ k = 2 ∨ k = 3 := by omega
  rcases h1 with rfl | rfl | rfl | rfl | rfl | rfl | rfl | rfl <;> rcases h2 with rfl | rfl | rfl | rfl <;>
    simp [Sha.bytes, Sha.wb, Sha.S8.list]
def ecells32 (l : List UInt8) (t : Nat) : List Value := (l.take t).map u8v ++ List.replicate (32 - t) (u8v 0)
theorem ecells32_set (l : List UInt8) (t : Nat) (ht : t < 32) (hl : l.length = 32) : (ecells32 l t).set t (u8v (l.getD t 0)) = ecells32 l (t + 1) := by
  unfold ecells32
  rw [set_snoc _ _ _ _ _ (by simp; omega) (by omega), List.take_add_one, List.getElem?_eq_getElem (show t < l.length by omega), List.getD_eq_getElem?_getD, List.getElem?_eq_getElem (show t < l.length by omega)]
  rw [show 32 - t - 1 = 32 - (t + 1) by omega]
  simp only [Option.toList_some, List.map_append, List.map_cons, List.map_nil, Option.getD_some]
theorem rsum_fn {h : Heap} {s : Sha.S8} {v : Value} {l : List UInt8} {n : Nat} (T : Tab h) (hb : RB h v l) (hl : l.length ≤ 10000000000000) (hn : n ≤ 2305843009213693951) :
    Fx Tryz.prog 118 #[.agg (stateC s v n).toArray] h fun u h' => u = .agg ((Sha.sum s l n).map u8v).toArray ∧ ExtH h h' := by
  refine fn_of 35 Tryz.func118 rfl (by kernel_rfl) rfl (by simp) ?_
  refine cw_seq (cw_region rfl ?_)
  conv => whnf
  intro h1 n1
  conv => whnf
  intro h2 n2
  have y1 : Blk h2 h.size (stateC s v n) 253 := n2.ext.blk n1.blk
  have y2 : Blk h2 h1.size (List.replicate 32 (u8v 0)) 74 := n2.blk
  have z1 := n1.size; have z2 := n2.size
  have x2 := n1.ext.trans n2.ext
  clear n1 n2
  generalize hh1 : h1.size = b1 at *
  refine cw_seq (cw_region rfl ?_)
  conv => whnf
  refine ⟨_, y1.rd (o := 9) rfl, ?_⟩
  conv => whnf
  refine ⟨_, rfl, _, rpad_yes n hn h2, ?_⟩
  rintro _ h3 ⟨v3, rfl, o3, x3, f3⟩
  have z3 := x3.size
  conv => whnf
  refine cw_seq (cw_region rfl ?_)
  conv => whnf
  refine ⟨_, by rfl, (x3.blk y1).all, ?_⟩
  conv => whnf
  have hpl : (Sha.pad n).length ≤ 72 := by rw [Sha.pad_length]; unfold Sha.zeros; omega
  refine ⟨_, rfl, _, rtaken_fn (T.more (x2.trans x3)) (hb.more (x2.trans x3)) o3.r (by omega) (by omega), ?_⟩
  rintro _ h4 ⟨v4, rfl, o4, x4, f4⟩
  have z4 := x4.size
  obtain ⟨a4, k4, e4⟩ := o4.r.len
  conv => whnf
  refine ⟨_, _, x4.blk (x3.blk y1), ⟨(show (10 : Nat) ≤ 10 by decide), by rfl, stateC_one _ _ _ (by subst e4; rfl)⟩, ?_⟩
  intro h5 w5
  replace w5 := w5.cast (l' := stateC (Sha.feed s (l ++ Sha.pad n)) v4 (n + (Sha.pad n).length)) (by rfl)
  have z5 := w5.size
  have es : Sha.sum s l n = Sha.bytes (Sha.feed s (l ++ Sha.pad n)) := rfl
  rw [es]
  generalize Sha.feed s (l ++ Sha.pad n) = S at *
  generalize n + (Sha.pad n).length = N at *
  have y5 := w5.new
  have y52 : Blk h5 b1 (List.replicate 32 (u8v 0)) 74 := w5.blk (x4.blk (x3.blk y2)) (by omega)
  have x5 : ExtH h h5 := ⟨by omega, fun b hb => by rw [w5.block b (by omega), x4.block b (by omega), x3.block b (by omega), x2.block b hb]⟩
  clear w5 o4 o3 es y1 y2 e4
  refine cw_seq (cw_region rfl ?_)
  conv => whnf
  intro h6 n6
  have z6 := n6.size
  have y6 : Blk h6 h5.size (ecells32 (Sha.bytes S) 0) 74 := n6.blk
  have y16 := n6.ext.blk y5
  have y26 := n6.ext.blk y52
  have x6 := x5.trans n6.ext
  clear n6 y5 y52 x5
  generalize hh5 : h5.size = b5 at *
  refine cw_seq (cw_seq (cw_region rfl ?_))
  conv => whnf
  refine cw_block ?_
  refine cw_loop (S := Nat) (fun t => [(1, .pointer (some ⟨h.size, 0, none⟩)), (2, .pointer (some ⟨b1, 0, none⟩)), (5, .pointer (some ⟨b5, 0, none⟩)), (6, .int .i64 (t : Int))])
    (fun t h' => t ≤ 32 ∧ Blk h' h.size (stateC S v4 N) 253 ∧ Blk h' b1 (List.replicate 32 (u8v 0)) 74 ∧ Blk h' b5 (ecells32 (Sha.bytes S) t) 74 ∧ ExtH h h') (fun t => 32 - t) 0 ⟨rfl, rfl, rfl, rfl, trivial⟩
    ⟨by omega, y16, y26, y6, x6⟩ ?_
  clear y16 y26 y6 x6 z6 h6
  rintro t h6 ⟨ht, y1, y2, y3, x6⟩
  have z6 := x6.size
  refine cw_seq (cw_seq (cw_region rfl ?_))
  conv => whnf
  by_cases hlt : t < 32
  · refine cw_yes rfl (by omega) (cw_skip ?_)
    obtain ⟨j, k, hj, hk, rfl⟩ : ∃ j k, j < 8 ∧ k < 4 ∧ t = 4 * j + k := ⟨t / 4, t % 4, by omega, by omega, by omega⟩
    have hbg := bytes_get S j k hj hk
    have q1 : IntKind.i64.wrap (((4 * j + k : Nat) : Int).tdiv 4) = (j : Int) := by
      rw [Int.tdiv_eq_ediv_of_nonneg (by omega)]
      exact i64_eq _ j (by omega) (by omega)
    have q2 : ((4 * j + k : Nat) : Int).tmod 4 = (k : Int) := by
      rw [Int.tmod_eq_emod_of_nonneg (by omega)]; omega
    have q3 := i64_eq (8 * (k : Int)) (8 * k) (by omega) (by omega)
    have q4 := i64_eq (24 - ((8 * k : Nat) : Int)) (24 - 8 * k) (by omega) (by omega)
    have q5 := u64_in ((24 - 8 * k : Nat) : Int) (24 - 8 * k) rfl (by omega)
    refine cw_seq (cw_block (cw_region rfl ?_))
    conv => whnf
    refine ⟨by decide, ?_⟩
    conv => whnf
    refine ⟨⟨by omega, by show IntKind.i64.wrap (((4 * j + k : Nat) : Int).tdiv 4) < ((8 : Nat) : Int); omega⟩, ?_⟩
    conv => whnf
    refine ⟨u32v (S.list.getD j 0), y1.rd (o := 0 + (IntKind.i64.wrap (((4 * j + k : Nat) : Int).tdiv 4)).toNat) (by
      rw [q1, show 0 + ((j : Int)).toNat = j by omega]
      have h1 : j = 0 ∨ j = 1 ∨ j = 2 ∨ j = 3 ∨ j = 4 ∨ j = 5 ∨ j = 6 ∨ j = 7 := by omega
      rcases h1 with rfl | rfl | rfl | rfl | rfl | rfl | rfl | rfl <;> rfl), ?_⟩
    conv => whnf
    refine ⟨by decide, ?_⟩
    conv => whnf
    rw [q2, q3, q4, q5]
    refine ⟨by omega, ?_⟩
    conv => whnf
    refine ⟨⟨by omega, by omega⟩, ?_⟩
    conv => whnf
    refine ⟨_, _, y3, by simp [ecells32, Sha.bytes_length]; omega, ?_⟩
    intro h7 w7
    replace w7 := w7.cast (l' := ecells32 (Sha.bytes S) (4 * j + k + 1)) (by
      rw [← ecells32_set (Sha.bytes S) (4 * j + k) hlt rfl, hbg]
      exact congr (congrArg (List.set _) (show 0 + ((4 * j + k : Nat) : Int).toNat = 4 * j + k by omega)) (shr_byte _ _ (24 - 8 * k) _ (by omega) rfl))
    have z7 := w7.size
    refine cw_region rfl ?_
    exact ⟨4 * j + k + 1, ⟨rfl, rfl, rfl, slot_i64 _ _ (by omega) (by omega), trivial⟩, ⟨by omega, w7.blk y1 (by omega), w7.blk y2 (by omega), w7.new, ⟨by omega, fun b hb => by rw [w7.block b (by omega), x6.block b hb]⟩⟩, by omega⟩
  · refine cw_no rfl (by omega) (cw_exit ?_)
    have t32 : t = 32 := by omega
    subst t32
    have e32 : ecells32 (Sha.bytes S) 32 = (Sha.bytes S).map u8v := by
      unfold ecells32
      rw [List.take_of_length_le (by rw [Sha.bytes_length]; omega)]
      simp
    rw [e32] at y3
    refine cw_seq (cw_region rfl ?_)
    conv => whnf
    refine ⟨_, by rfl, y3.all, ?_⟩
    conv => whnf
    refine ⟨_, _, y2, ⟨(show (32 : Nat) ≤ 32 by decide), by rfl, fun x hx => one8 (Sha.bytes S) x (by simpa using hx)⟩, ?_⟩
    intro h7 w7
    replace w7 := w7.cast (l' := (Sha.bytes S).map u8v) (by simp [splice, Sha.bytes_length])
    have z7 := w7.size
    refine cw_ret ?_
    conv => whnf
    refine ⟨_, by rfl, w7.new.all, rfl, ⟨by omega, fun b hb => by rw [w7.block b (by omega), x6.block b hb]⟩⟩
theorem rof_fn {D : Nat → Prop} {h : Heap} {x : Value} {ms : List (List UInt8)} {pv : List Value} (T : Tab h) (hx : PD D h x ms pv) (hms : ms.flatten.length ≤ 10000000000000) :
    Fx Tryz.prog 88 #[x] h fun u h' => u = .agg ((Sha.digest ms.flatten).map u8v).toArray ∧ ExtH h h' := by
  refine fn_of 8 Tryz.func88 rfl (by kernel_rfl) rfl (by simp) ?_
  refine cw_seq (cw_region rfl ?_)
  conv => whnf
  intro h1 n1
  have z1 := n1.size
  have y1 : Blk h1 h.size (List.replicate 32 (u8v 0)) 74 := n1.blk
  have x1 := n1.ext
  clear n1
  refine cw_seq (cw_region rfl ?_)
  conv => whnf
  refine ⟨_, rfl, _, rnew_fn h1, ?_⟩
  rintro _ h2 ⟨rfl, x2⟩
  conv => whnf
  have x02 := x1.trans x2
  refine ⟨_, rfl, _, joined_fn (hx.keep (x02.chg (S := fun _ => False)) (fun _ _ e => e)) (by omega), ?_⟩
  rintro v3 h3 ⟨o3, x3, f3⟩
  obtain ⟨a3, k3, e3⟩ := o3.r.len
  conv => whnf
  have r0 : RB h3 (.slice none 0 0) [] := (RD.nil (D := fun _ => True)).1
  refine ⟨_, rfl, _, rtaken_fn (T.more (x02.trans x3)) r0 o3.r (by rw [List.length_nil]; omega) (by omega), ?_⟩
  rintro _ h4 ⟨v4, rfl, o4, x4, f4⟩
  have hrl := Sha.rest_lt ([] ++ ms.flatten)
  conv => whnf
  refine ⟨_, rfl, _, rsum_fn (T.more ((x02.trans x3).trans x4)) o4.r (by omega) (by omega), ?_⟩
  rintro _ h5 ⟨rfl, x5⟩
  have z2 := x2.size; have z3 := x3.size; have z4 := x4.size; have z5 := x5.size
  conv => whnf
  refine ⟨_, _, x5.blk (x4.blk (x3.blk (x2.blk y1))), ⟨(show (32 : Nat) ≤ 32 by decide), by rfl, fun x hx => one8 _ x (by simpa using hx)⟩, ?_⟩
  intro h6 w6
  replace w6 := w6.cast (l' := (Sha.digest ms.flatten).map u8v) (by simp [splice, Sha.sum_length, Sha.digest])
  have z6 := w6.size
  refine cw_ret ?_
  conv => whnf
  refine ⟨_, by rfl, w6.new.all, rfl, ⟨by omega, fun b hb => by rw [w6.block b (by omega), x5.block b (by omega), x4.block b (by omega), x3.block b (by omega), x02.block b (by omega)]⟩⟩
theorem info24 : (Tryz.prog.info? 33).map (fun i => (i.zero, i.size, i.bytes)) = some (some (.slice none 0 0), 1, 24) := by kernel_rfl
theorem OB.blk {h : Heap} {v : Value} {l : List UInt8} (o : OB h v l) {b : Nat} (hb : ob v b) : ∃ cs, Blk h b cs 5 := by
  rcases o.cases with ⟨rfl, _⟩ | ⟨g, cap, tl, rfl, _, _, hg, _⟩
  · exact (ob_nil hb).elim
  · rw [ob_slice] at hb; subst hb; exact ⟨_, hg⟩
/-- a list of parts of its own -/
structure OwnP (lo : Nat) (h : Heap) (x : Value) (ms : List (List UInt8)) (qv : List Value) : Prop where
  own : OwnS h 33 1 x ms.length qv
  above : ∀ b, ob x b → lo ≤ b
  part : ∀ (i : Nat) (m : List UInt8), ms[i]? = some m → ∃ v, qv[i]? = some v ∧ OB h v m ∧ ∀ b, ob v b → lo ≤ b
theorem OwnP.pd {lo : Nat} {h : Heap} {x : Value} {ms : List (List UInt8)} {qv : List Value} (H : OwnP lo h x ms qv) : PD (fun b => lo ≤ b ∧ b < h.size) h x ms qv :=
  ⟨OwnS.src H.own, fun _ b hb => ⟨H.above b hb, OwnS.lt H.own hb⟩, fun i m hi => by
    obtain ⟨v, h1, h2, h3⟩ := H.part i m hi
    exact ⟨v, h1, h2.r, fun _ b hb => ⟨h3 b hb, OwnS.lt h2 hb⟩⟩⟩
theorem OwnP.more {lo : Nat} {h h' : Heap} {x : Value} {ms : List (List UInt8)} {qv : List Value} (H : OwnP lo h x ms qv) (e : ExtH h h') : OwnP lo h' x ms qv :=
  ⟨OwnS.more H.own e, H.above, fun i m hi => by
    obtain ⟨v, h1, h2, h3⟩ := H.part i m hi
    exact ⟨v, h1, OwnS.more h2 e, h3⟩⟩
end Go.Proofs.YthigegabdbkhiaaGreatDoor
namespace Go.Proofs.YthigegabdbkhiaaGreatDoor.Sha
def tagErr (s : List UInt8) : Int := if isTag s = true then 0 else 22
def preOf (s : List UInt8) (ms : List (List UInt8)) : List UInt8 := if isTag s = true then pre s ms else []
def tagDig (s : List UInt8) (ms : List (List UInt8)) : List UInt8 := if isTag s = true then digest (pre s ms) else List.replicate 32 0
theorem tagDig_length (s : List UInt8) (ms : List (List UInt8)) : (tagDig s ms).length = 32 := by
  unfold tagDig
  split
  · rfl
  · simp
theorem preOf_le (s : List UInt8) (ms : List (List UInt8)) : (preOf s ms).length ≤ 1 + s.length + 8 * ms.length + ms.flatten.length := by
  unfold preOf
  split
  · have := accP_le s ms ms.length
    unfold accP at this
    rwa [List.take_length] at this
  · simp
end Go.Proofs.YthigegabdbkhiaaGreatDoor.Sha
namespace Go.Proofs.YthigegabdbkhiaaGreatDoor
open Go Vm
set_option maxRecDepth 100000
theorem rpreimage_no {s : List UInt8} {x : Value} (hs : s.length ≤ maxLen) (hT : Sha.isTag s = false) : FxP Tryz.prog 87 #[.string (bs s), x] (.tuple #[.slice none 0 0, .int .i64 22]) := by
  intro h
  refine fn_of 39 Tryz.func87 rfl (by kernel_rfl) rfl (by simp) ?_
  refine cw_seq (cw_region rfl ?_)
  refine cw_seq (cw_seq (cw_region rfl ?_))
  conv => whnf
  refine ⟨_, rfl, _, rtag_fn s hs h, ?_⟩
  rw [hT]
  rintro _ h0 ⟨rfl, e⟩
  subst h0
  conv => whnf
  refine cw_true rfl (cw_seq (cw_region rfl ?_))
  exact cw_ret ⟨rfl, rfl⟩
theorem rpreimage_fn {D : Nat → Prop} {h : Heap} {s : List UInt8} {x : Value} {ms : List (List UInt8)} {pv : List Value} (hx : PD D h x ms pv) (hD : ∀ b, D b → b < h.size) (hT : Sha.isTag s = true)
    (hms : ms.flatten.length + ms.length ≤ 1000000000000) :
    Fx Tryz.prog 87 #[.string (bs s), x] h fun u h' => ∃ v', u = .tuple #[v', .int .i64 0] ∧ OB h' v' (Sha.pre s ms) ∧ ExtH h h' ∧ ∀ b, ob v' b → h.size ≤ b := by
  refine fn_of 39 Tryz.func87 rfl (by kernel_rfl) rfl (by simp) ?_
  obtain ⟨hs1, hs2⟩ := Sha.isTag_len hT
  refine cw_seq (cw_region rfl ?_)
  refine cw_seq (cw_seq (cw_region rfl ?_))
  conv => whnf
  refine ⟨_, rfl, _, rtag_fn s (by simp only [maxLen]; omega) h, ?_⟩
  rw [hT]
  rintro _ h0 ⟨rfl, e⟩
  subst h0
  conv => whnf
  refine cw_false rfl (cw_skip ?_)
  refine cw_seq (cw_region rfl ?_)
  conv => whnf
  have ew : Value.int .u8 (IntKind.u8.wrap (s.length : Int)) = u8v (UInt8.ofNat s.length) := congrArg (Value.int .u8) (wrap8_nat s.length)
  refine ⟨_, rfl, #[u8v (UInt8.ofNat s.length)], 5, fun w => (congrArg (fun v => (Instr.buildSlice 33 1 #[(0, v)]).run Tryz.prog w) ew).trans (by kernel_rfl), ?_⟩
  intro h1 n1
  conv => whnf
  refine ⟨_, rfl, _, append_str (ty := 33) n1.blk hs1 hs2, ?_⟩
  rintro v2 h2 ⟨o2, x2, f2⟩
  have z1 := n1.size; have z2 := x2.size
  have x02 := n1.ext.trans x2
  replace o2 : OB h2 v2 (accP s ms 0) := by
    have : accP s ms 0 = UInt8.ofNat s.length :: s := by simp [accP, Sha.pre, Sha.encP]
    rw [this]; exact o2
  replace f2 : ∀ b, ob v2 b → h.size ≤ b := fun b hb => by have := f2 b hb; omega
  clear n1
  obtain ⟨a, c, hfx, hlen⟩ := hx.fix
  have hmax : maxLen < 9223372036854775808 := by decide
  subst hfx
  refine cw_seq (cw_seq (cw_region rfl ?_))
  conv => whnf
  refine cw_block ?_
  refine cw_loop (S := Nat × Value) (fun q => [(1, .slice a ms.length c), (6, q.2), (7, .int .i64 (q.1 : Int))])
    (fun q h' => q.1 ≤ ms.length ∧ OB h' q.2 (accP s ms q.1) ∧ ExtH h h' ∧ ∀ b, ob q.2 b → h.size ≤ b) (fun q => ms.length - q.1) (0, v2) ⟨rfl, rfl, rfl, trivial⟩ ⟨Nat.zero_le _, o2, x02, f2⟩ ?_
  clear o2 x02 f2 x2 z1 z2
  rintro ⟨t, v⟩ h3 ⟨ht, o3, x3, f3⟩
  simp only [] at ht o3 f3
  have hacc := accP_le s ms t
  refine cw_seq (cw_seq (cw_region rfl ?_))
  conv => whnf
  by_cases hlt : t < ms.length
  · refine cw_yes rfl (by show (t : Int) < (ms.length : Int); omega) (cw_skip ?_)
    have hx3 := hx.keep (x3.chg (S := fun _ => False)) (fun _ _ e => e)
    obtain ⟨b, o, m, u, rfl, hm, hr, hu⟩ := hx3.row t hlt
    have hmm := accP_succ (s := s) hm
    have hac1 := accP_le s ms (t + 1)
    have hml : m.length ≤ ms.flatten.length := by
      have h1 := upto_succ ms t m hm
      have h2 := upto_le ms (t + 1)
      rw [h1, List.length_append] at h2
      omega
    refine cw_seq (cw_block (cw_seq (cw_region rfl ?_)))
    obtain ⟨va, vc, hve⟩ := o3.r.len
    obtain ⟨ua, uc, hue⟩ := hu.1.len
    subst hve hue
    conv => whnf
    refine ⟨⟨by omega, by show (t : Int) < ((ms.length : Nat) : Int); omega⟩, ?_⟩
    conv => whnf
    refine ⟨_, hr, ?_⟩
    conv => whnf
    rw [u64_in (m.length : Int) m.length rfl (by omega)]
    refine ⟨_, rfl, _, reight_fn m.length h3, ?_⟩
    rintro v4 h4 ⟨o4, x4, f4⟩
    have z3 := x3.size; have z4 := x4.size
    obtain ⟨a4, c4, e4⟩ := o4.r.len
    have e8 := Sha.eight_length m.length
    subst e4
    conv => whnf
    refine ⟨_, rfl, _, append_bytes (ty := 33) (OwnS.more o3 x4) o4.r (by omega), ?_⟩
    rintro v5 h5 ⟨o5, c5, f5⟩
    have z5 := c5.size
    obtain ⟨a5, k5, e5⟩ := o5.r.len
    subst e5
    have g5 : ∀ b, ob (.slice a5 (accP s ms t ++ Sha.eight m.length).length k5) b → h.size ≤ b := fun b hb => (f5 b hb).elim (fun e => f3 b e) (fun e => by omega)
    have x5 : ExtH h h5 := ⟨by omega, fun b hb => by rw [c5.block b (by omega) (fun e => by have := f3 b e; omega), x4.block b (by omega), x3.block b hb]⟩
    have hx5 := hx.keep (x5.chg (S := fun _ => False)) (fun _ _ e => e)
    obtain ⟨b', o', m', u', hba, hm', hr', hu'⟩ := hx5.row t hlt
    injection hba with hba
    injection hba with hb1 hb2 _
    subst hb1 hb2
    rw [hm] at hm'
    injection hm' with hm'
    subst hm'
    refine cw_region rfl ?_
    conv => whnf
    refine ⟨⟨by omega, by show (t : Int) < ((ms.length : Nat) : Int); omega⟩, ?_⟩
    conv => whnf
    refine ⟨_, hr', ?_⟩
    conv => whnf
    have ll : (accP s ms t ++ Sha.eight m.length).length = (accP s ms t).length + 8 := by rw [List.length_append, e8]
    have ll2 : (accP s ms (t + 1)).length = (accP s ms t).length + 8 + m.length := by rw [hmm, List.length_append, ll]
    refine ⟨_, rfl, _, append_bytes (ty := 33) o5 hu'.1 (by omega), ?_⟩
    rintro v6 h6 ⟨o6, c6, f6⟩
    have z6 := c6.size
    rw [← hmm] at o6
    refine cw_region rfl ?_
    exact ⟨(t + 1, v6), ⟨rfl, rfl, slot_i64 _ _ (by simp only []; omega) (by simp only []; omega), trivial⟩, ⟨hlt, o6, ⟨by omega, fun b hb => by
        rw [c6.block b (by omega) (fun e => by have := g5 b e; omega), x5.block b hb]⟩,
      fun b hb => (f6 b hb).elim (fun e => g5 b e) (fun e => by omega)⟩, by show ms.length - (t + 1) < ms.length - t; omega⟩
  · refine cw_no rfl (by show ¬ (t : Int) < (ms.length : Int); omega) (cw_exit ?_)
    have tn : t = ms.length := by omega
    subst tn
    refine cw_seq (cw_region rfl ?_)
    refine cw_ret ⟨_, rfl, ?_, x3, f3⟩
    have : accP s ms ms.length = Sha.pre s ms := by unfold accP; rw [List.take_length]
    rw [← this]
    exact o3
/-- both preimages, whatever the tag -/
theorem preimage_all {D : Nat → Prop} {h : Heap} {s : List UInt8} {x : Value} {ms : List (List UInt8)} {pv : List Value} (hx : PD D h x ms pv) (hD : ∀ b, D b → b < h.size) (hs : s.length ≤ maxLen) (hms : ms.flatten.length + ms.length ≤ 1000000000000) :
    Fx Tryz.prog 81 #[.string (bs s), x] h fun u h' => ∃ v', u = .tuple #[v', .int .i64 (Sha.tagErr s)] ∧ OB h' v' (Sha.preOf s ms) ∧ ExtH h h' ∧ ∀ b, ob v' b → h.size ≤ b := by
  unfold Sha.tagErr Sha.preOf
  by_cases hT : Sha.isTag s = true
  · rw [if_pos hT, if_pos hT]
    exact preimage_fn hx hD hT hms
  · rw [if_neg hT, if_neg hT]
    refine (preimage_no hs (by simpa using hT) h).mono ?_
    rintro _ h' ⟨rfl, rfl⟩
    exact ⟨_, rfl, OB.nil h', ExtH.refl _, fun b hb => (ob_nil hb).elim⟩
theorem rpreimage_all {D : Nat → Prop} {h : Heap} {s : List UInt8} {x : Value} {ms : List (List UInt8)} {pv : List Value} (hx : PD D h x ms pv) (hD : ∀ b, D b → b < h.size) (hs : s.length ≤ maxLen) (hms : ms.flatten.length + ms.length ≤ 1000000000000) :
    Fx Tryz.prog 87 #[.string (bs s), x] h fun u h' => ∃ v', u = .tuple #[v', .int .i64 (Sha.tagErr s)] ∧ OB h' v' (Sha.preOf s ms) ∧ ExtH h h' ∧ ∀ b, ob v' b → h.size ≤ b := by
  unfold Sha.tagErr Sha.preOf
  by_cases hT : Sha.isTag s = true
  · rw [if_pos hT, if_pos hT]
    exact rpreimage_fn hx hD hT hms
  · rw [if_neg hT, if_neg hT]
    refine (rpreimage_no hs (by simpa using hT) h).mono ?_
    rintro _ h' ⟨rfl, rfl⟩
    exact ⟨_, rfl, OB.nil h', ExtH.refl _, fun b hb => (ob_nil hb).elim⟩
theorem stagged_fn {D : Nat → Prop} {h : Heap} {s : List UInt8} {x : Value} {ms : List (List UInt8)} {pv : List Value} (hx : PD D h x ms pv) (hD : ∀ b, D b → b < h.size) (hs : s.length ≤ maxLen) (hms : s.length + ms.flatten.length + ms.length ≤ 100000000000) :
    Fx Tryz.prog 53 #[.string (bs s), x] h fun u h' => u = .tuple #[.agg ((Sha.tagDig s ms).map u8v).toArray, .int .i64 (Sha.tagErr s)] ∧ ExtH h h' := by
  refine fn_of 21 Tryz.func53 rfl (by kernel_rfl) rfl (by simp) ?_
  refine cw_seq (cw_region rfl ?_)
  conv => whnf
  intro h1 n1
  have z1 := n1.size
  have y1 : Blk h1 h.size (List.replicate 32 (u8v 0)) 74 := n1.blk
  have hpl := Sha.preOf_le s ms
  refine cw_seq (cw_region rfl ?_)
  conv => whnf
  refine ⟨_, rfl, _, preimage_all (hx.keep (n1.ext.chg (S := fun _ => False)) (fun _ _ e => e)) (fun b hb => by have := hD b hb; omega) hs (by omega), ?_⟩
  rintro _ h2 ⟨v2, rfl, o2, x2, f2⟩
  have z2 := x2.size
  conv => whnf
  refine cw_seq (cw_seq (cw_region rfl ?_))
  unfold Sha.tagErr Sha.tagDig
  unfold Sha.preOf at o2 hpl
  by_cases hT : Sha.isTag s = true
  · rw [if_pos hT, if_pos hT]
    rw [if_pos hT] at o2 hpl
    refine cw_false rfl (cw_skip ?_)
    obtain ⟨a2, k2, e2⟩ := o2.r.len
    refine cw_seq (cw_region rfl ?_)
    conv => whnf
    refine ⟨_, rfl, #[v2], 33, fun w => by subst e2; kernel_rfl, ?_⟩
    intro h3 n3
    have z3 := n3.size
    conv => whnf
    refine ⟨_, rfl, _, of_fn (PD.one (D := fun k => h1.size ≤ k ∧ k < h3.size) n3.blk ⟨by omega, by omega⟩ ⟨RB.more o2.r n3.ext, fun _ b hb => ⟨f2 b hb, by have := OwnS.lt o2 hb; omega⟩⟩) (fun b hb => hb.2) (by simp; omega), ?_⟩
    rintro _ h4 ⟨rfl, x4⟩
    have z4 := x4.size
    simp only [List.flatten_cons, List.flatten_nil, List.append_nil]
    conv => whnf
    refine ⟨_, _, x4.blk (n3.ext.blk (x2.blk y1)), ⟨(show (32 : Nat) ≤ 32 by decide), by rfl, fun x hx => one8 _ x (by simpa using hx)⟩, ?_⟩
    intro h5 w5
    replace w5 := w5.cast (l' := (Sha.digest (Sha.pre s ms)).map u8v) (by simp [splice, Sha.sum_length, Sha.digest])
    have z5 := w5.size
    refine cw_ret ?_
    conv => whnf
    refine ⟨_, by rfl, w5.new.all, rfl, ⟨by omega, fun b hb => by rw [w5.block b (by omega), x4.block b (by omega), n3.block b (by omega), x2.block b (by omega), n1.block b hb]⟩⟩
  · rw [if_neg hT, if_neg hT]
    refine cw_true rfl ?_
    refine cw_seq (cw_region rfl ?_)
    conv => whnf
    refine ⟨_, rfl, (List.replicate 32 (u8v 0)).toArray, fun w => by kernel_rfl, ?_⟩
    conv => whnf
    refine ⟨_, _, x2.blk y1, ⟨(show (32 : Nat) ≤ 32 by decide), by rfl, by simp [u8v, Value.oneCell']⟩, ?_⟩
    intro h5 w5
    replace w5 := w5.cast (l' := List.replicate 32 (u8v 0)) (by simp [splice])
    have z5 := w5.size
    refine cw_ret ?_
    conv => whnf
    refine ⟨_, by rfl, w5.new.all, by simp; rfl, ⟨by omega, fun b hb => by rw [w5.block b (by omega), x2.block b (by omega), n1.block b hb]⟩⟩
theorem rtagged_fn {D : Nat → Prop} {h : Heap} {s : List UInt8} {x : Value} {ms : List (List UInt8)} {pv : List Value} (T : Tab h) (hx : PD D h x ms pv) (hD : ∀ b, D b → b < h.size) (hs : s.length ≤ maxLen) (hms : s.length + ms.flatten.length + ms.length ≤ 100000000000) :
    Fx Tryz.prog 56 #[.string (bs s), x] h fun u h' => u = .tuple #[.agg ((Sha.tagDig s ms).map u8v).toArray, .int .i64 (Sha.tagErr s)] ∧ ExtH h h' := by
  refine fn_of 21 Tryz.func56 rfl (by kernel_rfl) rfl (by simp) ?_
  refine cw_seq (cw_region rfl ?_)
  conv => whnf
  intro h1 n1
  have z1 := n1.size
  have y1 : Blk h1 h.size (List.replicate 32 (u8v 0)) 74 := n1.blk
  have hpl := Sha.preOf_le s ms
  refine cw_seq (cw_region rfl ?_)
  conv => whnf
  refine ⟨_, rfl, _, rpreimage_all (hx.keep (n1.ext.chg (S := fun _ => False)) (fun _ _ e => e)) (fun b hb => by have := hD b hb; omega) hs (by omega), ?_⟩
  rintro _ h2 ⟨v2, rfl, o2, x2, f2⟩
  have z2 := x2.size
  conv => whnf
  refine cw_seq (cw_seq (cw_region rfl ?_))
  unfold Sha.tagErr Sha.tagDig
  unfold Sha.preOf at o2 hpl
  by_cases hT : Sha.isTag s = true
  · rw [if_pos hT, if_pos hT]
    rw [if_pos hT] at o2 hpl
    refine cw_false rfl (cw_skip ?_)
    obtain ⟨a2, k2, e2⟩ := o2.r.len
    refine cw_seq (cw_region rfl ?_)
    conv => whnf
    refine ⟨_, rfl, #[v2], 33, fun w => by subst e2; kernel_rfl, ?_⟩
    intro h3 n3
    have z3 := n3.size
    conv => whnf
    refine ⟨_, rfl, _, rof_fn (T.more (n1.ext.trans (x2.trans n3.ext))) (PD.one (D := fun k => h1.size ≤ k ∧ k < h3.size) n3.blk ⟨by omega, by omega⟩ ⟨RB.more o2.r n3.ext, fun _ b hb => ⟨f2 b hb, by have := OwnS.lt o2 hb; omega⟩⟩) (by simp; omega), ?_⟩
    rintro _ h4 ⟨rfl, x4⟩
    have z4 := x4.size
    simp only [List.flatten_cons, List.flatten_nil, List.append_nil]
    conv => whnf
    refine ⟨_, _, x4.blk (n3.ext.blk (x2.blk y1)), ⟨(show (32 : Nat) ≤ 32 by decide), by rfl, fun x hx => one8 _ x (by simpa using hx)⟩, ?_⟩
    intro h5 w5
    replace w5 := w5.cast (l' := (Sha.digest (Sha.pre s ms)).map u8v) (by simp [splice, Sha.sum_length, Sha.digest])
    have z5 := w5.size
    refine cw_ret ?_
    conv => whnf
    refine ⟨_, by rfl, w5.new.all, rfl, ⟨by omega, fun b hb => by rw [w5.block b (by omega), x4.block b (by omega), n3.block b (by omega), x2.block b (by omega), n1.block b hb]⟩⟩
  · rw [if_neg hT, if_neg hT]
    refine cw_true rfl ?_
    refine cw_seq (cw_region rfl ?_)
    conv => whnf
    refine ⟨_, rfl, (List.replicate 32 (u8v 0)).toArray, fun w => by kernel_rfl, ?_⟩
    conv => whnf
    refine ⟨_, _, x2.blk y1, ⟨(show (32 : Nat) ≤ 32 by decide), by rfl, by simp [u8v, Value.oneCell']⟩, ?_⟩
    intro h5 w5
    replace w5 := w5.cast (l' := List.replicate 32 (u8v 0)) (by simp [splice])
    have z5 := w5.size
    refine cw_ret ?_
    conv => whnf
    refine ⟨_, by rfl, w5.new.all, by simp; rfl, ⟨by omega, fun b hb => by rw [w5.block b (by omega), x2.block b (by omega), n1.block b hb]⟩⟩
end Go.Proofs.YthigegabdbkhiaaGreatDoor
