/-
  Preimages: what is hashed for a purpose; package sha's Preimage; plain: unlike tags or parts have unlike preimages.
-/
import Derived.Test.YtgecapllodgdeaaGreatDoorShaTag
import Derived.Deep.AppendSrc
namespace Go.Proofs.YtgecapllodgdeaaGreatDoor.Sha
def encP (ms : List (List UInt8)) : List UInt8 := ms.flatMap fun m => eight m.length ++ m
def pre (s : List UInt8) (ms : List (List UInt8)) : List UInt8 := UInt8.ofNat s.length :: (s ++ encP ms)
theorem eight_inj {n m : Nat} (hn : n < 18446744073709551616) (hm : m < 18446744073709551616) (h : eight n = eight m) : n = m := by
  have e : ∀ i, i < 8 → (n / 2 ^ (56 - 8 * i)) % 256 = (m / 2 ^ (56 - 8 * i)) % 256 := fun i hi => by
    have h1 := congrArg (fun l => (l.getD i 0).toNat) h
    have : i = 0 ∨ i = 1 ∨ i = 2 ∨ i = 3 ∨ i = 4 ∨ i = 5 ∨ i = 6 ∨ i = 7 := by omega
    rcases this with rfl | rfl | rfl | rfl | rfl | rfl | rfl | rfl <;> simpa [eight] using h1
  have e0 := e 0 (by omega); have e1 := e 1 (by omega); have e2 := e 2 (by omega); have e3 := e 3 (by omega)
  have e4 := e 4 (by omega); have e5 := e 5 (by omega); have e6 := e 6 (by omega); have e7 := e 7 (by omega)
  simp only [Nat.mul_zero, Nat.sub_zero, Nat.reduceMul, Nat.reduceSub, Nat.reducePow, Nat.pow_zero, Nat.div_one] at e0 e1 e2 e3 e4 e5 e6 e7
  clear e h
  omega
def small (ms : List (List UInt8)) : Prop := ∀ m ∈ ms, m.length < 18446744073709551616
theorem encP_cons (m : List UInt8) (ms : List (List UInt8)) : encP (m :: ms) = eight m.length ++ (m ++ encP ms) := by simp [encP]
theorem encP_step {m n : List UInt8} {xs ys : List UInt8} (hm : m.length < 18446744073709551616) (hn : n.length < 18446744073709551616) (h : eight m.length ++ (m ++ xs) = eight n.length ++ (n ++ ys)) : m = n ∧ xs = ys := by
  obtain ⟨h1, h2⟩ := List.append_inj h (by simp [eight_length])
  exact List.append_inj h2 (eight_inj hm hn h1)
theorem encP_inj : ∀ {ms ns : List (List UInt8)}, small ms → small ns → encP ms = encP ns → ms = ns
  | [], [], _, _, _ => rfl
  | [], n :: ns, _, _, h => by
    have := congrArg List.length h
    rw [encP_cons] at this
    simp [eight_length, encP] at this
    omega
  | m :: ms, [], _, _, h => by
    have := congrArg List.length h
    rw [encP_cons] at this
    simp [eight_length, encP] at this
  | m :: ms, n :: ns, h1, h2, h => by
    rw [encP_cons, encP_cons] at h
    obtain ⟨rfl, h3⟩ := encP_step (h1 m (by simp)) (h2 n (by simp)) h
    rw [encP_inj (fun x hx => h1 x (by simp [hx])) (fun x hx => h2 x (by simp [hx])) h3]
/-- one that begins with another one of as many parts is that one -/
theorem encP_prefix : ∀ {ms ns : List (List UInt8)} {t : List UInt8}, small ms → small ns → ms.length = ns.length → encP ns ++ t = encP ms → ms = ns
  | [], [], _, _, _, _, _ => rfl
  | [], n :: ns, _, _, _, hl, _ => by simp at hl
  | m :: ms, [], _, _, _, hl, _ => by simp at hl
  | m :: ms, n :: ns, t, h1, h2, hl, h => by
    rw [encP_cons, encP_cons, List.append_assoc, List.append_assoc] at h
    obtain ⟨rfl, h3⟩ := encP_step (h2 n (by simp)) (h1 m (by simp)) h
    rw [encP_prefix (fun x hx => h1 x (by simp [hx])) (fun x hx => h2 x (by simp [hx])) (by simpa using hl) h3]
theorem len_inj {s t : List UInt8} (hs : s.length ≤ 32) (ht : t.length ≤ 32) (h : UInt8.ofNat s.length = UInt8.ofNat t.length) : s.length = t.length := by
  have := congrArg UInt8.toNat h
  simp at this
  omega
theorem pre_inj {s t : List UInt8} {ms ns : List (List UInt8)} (hs : s.length ≤ 32) (ht : t.length ≤ 32) (h1 : small ms) (h2 : small ns) : pre s ms = pre t ns ↔ s = t ∧ ms = ns := by
  constructor
  · intro h
    unfold pre at h
    injection h with h3 h4
    obtain ⟨h5, h6⟩ := List.append_inj h4 (len_inj hs ht h3)
    exact ⟨h5, encP_inj h1 h2 h6⟩
  · rintro ⟨rfl, rfl⟩; rfl
/-- no preimage begins with another one of the same tag and as many parts -/
theorem pre_apart {s : List UInt8} {ms ns : List (List UInt8)} (h1 : small ms) (h2 : small ns) (hl : ms.length = ns.length) (hn : ms ≠ ns) : (pre s ms).take (pre s ns).length ≠ pre s ns := by
  intro h
  have h4 : pre s ns ++ (pre s ms).drop (pre s ns).length = pre s ms := by
    have := List.take_append_drop (pre s ns).length (pre s ms)
    rwa [h] at this
  unfold pre at h4
  simp only [List.cons_append, List.append_assoc] at h4
  injection h4 with _ h5
  exact hn (encP_prefix h1 h2 hl (List.append_cancel_left h5))
theorem isTag_len {s : List UInt8} (h : isTag s = true) : 1 ≤ s.length ∧ s.length ≤ 32 := by
  unfold isTag at h
  simp only [Bool.and_eq_true, decide_eq_true_eq] at h
  exact h.2
end Go.Proofs.YtgecapllodgdeaaGreatDoor.Sha
namespace Go.Proofs.YtgecapllodgdeaaGreatDoor
open Go Vm
set_option maxRecDepth 100000
/-- the bytes of a text behind one byte of our own -/
theorem append_str {h : Heap} {g : Nat} {c : UInt8} {s : List UInt8} {ty : TypeId} (hg : Blk h g [u8v c] 5) (hs1 : 1 ≤ s.length) (hs2 : s.length ≤ 32) :
    RunsV Tryz.prog (Builtin.append_ #[33, 9] ty #[.slice (some ⟨g, 0, none⟩) 1 1, .string (bs s)]) h fun v' h' => OB h' v' (c :: s) ∧ ExtH h h' ∧ ∀ b, ob v' b → h.size ≤ b := by
  intro w hw
  subst hw
  obtain ⟨i0, hi, hz0, hz1, hz2⟩ := info_parts info8
  have hold := (Src.ofSlice (P := Tryz.prog) w (size := i0.size) (tx := 33) Tryz.underlying33 ⟨g, 0, none⟩ 1 1 [u8v c] (by rw [hz1]; rfl) (fun j u hj => by
    rw [add_none, cell_eq_rd]
    exact hg.rdN 0 [u8v c] rfl j u hj) (by simp [u8v, Value.oneCell'])).cellsD
  have hsz : (bs s).size = s.length := rfl
  have hsrc := Src.ofString (P := Tryz.prog) w (tx := 9) Tryz.underlying9 (bs s)
  rw [← hz1, hsz] at hsrc
  have hrun := run_append_grow_src (P := Tryz.prog) w 33 9 ty 5 i0 (.int .u8 0) Tryz.underlying33 hi hz0 (some ⟨g, 0, none⟩) 1 1 [u8v c] hold (.string (bs s)) s.length (byteCells (bs s)) hsrc (by omega) (by omega)
    (growslice_fits (by omega) (by rw [hz2]; omega))
  refine ⟨_, _, hrun, ⟨rfl, rfl, rfl⟩, ?_, alloc_ext w _, fun d hd' => by rw [ob_slice] at hd'; omega⟩
  have hb : [u8v c] ++ byteCells (bs s) = (c :: s).map u8v := by simp [byteCells, bs, u8v]
  have hm : 1 + s.length ≤ maxLen := by simp only [maxLen]; omega
  have := owns_grown (e := 5) (w := w) (z := .int .u8 0) (by rw [hz1]; rfl) hz1 (xs := (c :: s).map u8v) (N := 1 + s.length) (by simp; omega) (grownCap_ge w (1 + s.length) 1 5) (grownCap_le_maxLen w (1 + s.length) 1 5 hm)
  rw [hb]
  unfold OB
  rw [show (c :: s).length = 1 + s.length by simp; omega]
  exact this
theorem PD.fix {D : Nat → Prop} {h : Heap} {x : Value} {ms : List (List UInt8)} {pv : List Value} (H : PD D h x ms pv) : ∃ a c, x = .slice a ms.length c ∧ ms.length ≤ maxLen := by
  rcases H.form with ⟨rfl, rfl⟩ | ⟨A, cap, rfl, hc, hm, hr⟩
  · exact ⟨_, _, rfl, Nat.zero_le _⟩
  · exact ⟨_, _, rfl, by omega⟩
theorem PD.row {D : Nat → Prop} {h : Heap} {a : Option Addr} {n c : Nat} {ms : List (List UInt8)} {pv : List Value} (hx : PD D h (.slice a n c) ms pv) (t : Nat) (hlt : t < ms.length) :
    ∃ b o m v, a = some ⟨b, o, none⟩ ∧ ms[t]? = some m ∧ rd h ⟨b, o + t, none⟩ = some v ∧ RD D h v m := by
  obtain ⟨v, h1, h2⟩ := hx.part t ms[t] (List.getElem?_eq_getElem hlt)
  rcases hx.form with ⟨h3, h4⟩ | ⟨A, cap, h3, hc, hm, hr⟩
  · rw [h4] at hlt; simp at hlt
  · injection h3 with h3
    have hs := hr.spot (by intro e; subst e; simp at h1)
    rw [hs, rdA_plain] at hr
    exact ⟨A.block, A.off, _, v, by rw [← hs]; exact h3, List.getElem?_eq_getElem hlt, hr t v h1, h2⟩
def accP (s : List UInt8) (ms : List (List UInt8)) (t : Nat) : List UInt8 := Sha.pre s (ms.take t)
theorem accP_succ {s : List UInt8} {ms : List (List UInt8)} {t : Nat} {m : List UInt8} (h : ms[t]? = some m) : accP s ms (t + 1) = accP s ms t ++ Sha.eight m.length ++ m := by
  unfold accP Sha.pre Sha.encP
  rw [List.take_add_one, h]
  simp
theorem encP_length (ms : List (List UInt8)) : (Sha.encP ms).length = 8 * ms.length + ms.flatten.length := by
  induction ms with
  | nil => rfl
  | cons m ms ih =>
    rw [Sha.encP_cons]
    simp only [List.length_append, Sha.eight_length, ih, List.length_cons, List.flatten_cons]
    omega
theorem accP_le (s : List UInt8) (ms : List (List UInt8)) (t : Nat) : (accP s ms t).length ≤ 1 + s.length + 8 * ms.length + ms.flatten.length := by
  have h1 := upto_le ms t
  unfold upto at h1
  unfold accP Sha.pre
  simp only [List.length_cons, List.length_append, encP_length]
  have : (ms.take t).length ≤ ms.length := by rw [List.length_take]; omega
  omega
theorem preimage_no {s : List UInt8} {x : Value} (hs : s.length ≤ maxLen) (hT : Sha.isTag s = false) : FxP Tryz.prog 41 #[.string (bs s), x] (.tuple #[.slice none 0 0, .int .i64 22]) := by
  intro h
  refine fn_of 35 Tryz.func41 rfl (by kernel_rfl) rfl (by simp) ?_
  refine cw_seq (cw_region rfl ?_)
  refine cw_seq (cw_seq (cw_region rfl ?_))
  conv => whnf
  refine ⟨_, rfl, _, tagged_fn s hs h, ?_⟩
  rw [hT]
  rintro _ h0 ⟨rfl, e⟩
  subst h0
  conv => whnf
  refine cw_true rfl (cw_seq (cw_region rfl ?_))
  exact cw_ret ⟨rfl, rfl⟩
theorem preimage_fn {D : Nat → Prop} {h : Heap} {s : List UInt8} {x : Value} {ms : List (List UInt8)} {pv : List Value} (hx : PD D h x ms pv) (hD : ∀ b, D b → b < h.size) (hT : Sha.isTag s = true)
    (hms : ms.flatten.length + ms.length ≤ 1000000000000) :
    Fx Tryz.prog 41 #[.string (bs s), x] h fun u h' => ∃ v', u = .tuple #[v', .int .i64 0] ∧ OB h' v' (Sha.pre s ms) ∧ ExtH h h' ∧ ∀ b, ob v' b → h.size ≤ b := by
  refine fn_of 35 Tryz.func41 rfl (by kernel_rfl) rfl (by simp) ?_
  obtain ⟨hs1, hs2⟩ := Sha.isTag_len hT
  refine cw_seq (cw_region rfl ?_)
  refine cw_seq (cw_seq (cw_region rfl ?_))
  conv => whnf
  refine ⟨_, rfl, _, tagged_fn s (by simp only [maxLen]; omega) h, ?_⟩
  rw [hT]
  rintro _ h0 ⟨rfl, e⟩
  subst h0
  conv => whnf
  refine cw_false rfl (cw_skip ?_)
  refine cw_seq (cw_region rfl ?_)
  conv => whnf
  have ew : Value.int .u8 (IntKind.u8.wrap (s.length : Int)) = u8v (UInt8.ofNat s.length) := congrArg (Value.int .u8) (wrap8_nat s.length)
  refine ⟨_, rfl, #[u8v (UInt8.ofNat s.length)], 5, fun w => (congrArg (fun v => (Instr.buildSlice 33 1 #[(0, v)]).run Tryz.prog w) ew).trans (by kernel_rfl), ?_⟩
  intro h1 n1
  conv => whnf
  refine ⟨_, rfl, _, append_str (ty := 33) n1.blk hs1 hs2, ?_⟩
  rintro v2 h2 ⟨o2, x2, f2⟩
  have z1 := n1.size; have z2 := x2.size
  have x02 := n1.ext.trans x2
  replace o2 : OB h2 v2 (accP s ms 0) := by
    have : accP s ms 0 = UInt8.ofNat s.length :: s := by simp [accP, Sha.pre, Sha.encP]
    rw [this]; exact o2
  replace f2 : ∀ b, ob v2 b → h.size ≤ b := fun b hb => by have := f2 b hb; omega
  clear n1
  obtain ⟨a, c, hfx, hlen⟩ := hx.fix
  have hmax : maxLen < 9223372036854775808 := by decide
  subst hfx
  refine cw_seq (cw_seq (cw_region rfl ?_))
  conv => whnf
  refine cw_block ?_
  refine cw_loop (S := Nat × Value) (fun q => [(6, q.2), (18, .slice a ms.length c), (19, .int .i64 (ms.length : Int)), (20, .int .i64 (q.1 : Int))])
    (fun q h' => q.1 ≤ ms.length ∧ OB h' q.2 (accP s ms q.1) ∧ ExtH h h' ∧ ∀ b, ob q.2 b → h.size ≤ b) (fun q => ms.length - q.1) (0, v2) ⟨rfl, rfl, rfl, rfl, trivial⟩ ⟨Nat.zero_le _, o2, x02, f2⟩ ?_
  clear o2 x02 f2 x2 z1 z2
  rintro ⟨t, v⟩ h3 ⟨ht, o3, x3, f3⟩
  simp only [] at ht o3 f3
  have hacc := accP_le s ms t
  refine cw_seq (cw_region rfl ?_)
  by_cases hlt : t < ms.length
  · refine cw_seq (cw_yes rfl (by show (t : Int) < (ms.length : Int); omega) (cw_skip ?_))
    have hx3 := hx.keep (x3.chg (S := fun _ => False)) (fun _ _ e => e)
    obtain ⟨b, o, m, u, rfl, hm, hr, hu⟩ := hx3.row t hlt
    have hmm := accP_succ (s := s) hm
    have hac1 := accP_le s ms (t + 1)
    have hml : m.length ≤ ms.flatten.length := by
      have h1 := upto_succ ms t m hm
      have h2 := upto_le ms (t + 1)
      rw [h1, List.length_append] at h2
      omega
    refine cw_seq (cw_block (cw_seq (cw_region rfl ?_)))
    conv => whnf
    refine ⟨⟨by omega, by show (t : Int) < ((ms.length : Nat) : Int); omega⟩, ?_⟩
    conv => whnf
    refine ⟨_, hr, ?_⟩
    obtain ⟨ua, uc, hue⟩ := hu.1.len
    obtain ⟨va, vc, hve⟩ := o3.r.len
    subst hue hve
    conv => whnf
    refine cw_seq (cw_region rfl ?_)
    conv => whnf
    rw [u64_in (m.length : Int) m.length rfl (by omega)]
    refine ⟨_, rfl, _, eight_fn m.length h3, ?_⟩
    rintro v4 h4 ⟨o4, x4, f4⟩
    have z3 := x3.size; have z4 := x4.size
    obtain ⟨a4, c4, e4⟩ := o4.r.len
    have e8 := Sha.eight_length m.length
    subst e4
    conv => whnf
    refine ⟨_, rfl, _, append_bytes (ty := 33) (OwnS.more o3 x4) o4.r (by omega), ?_⟩
    rintro v5 h5 ⟨o5, c5, f5⟩
    have z5 := c5.size
    obtain ⟨a5, k5, e5⟩ := o5.r.len
    subst e5
    have hu5 : RD D h5 (.slice ua m.length uc) m := (hu.keep (x4.chg (S := fun _ => False)) (fun _ _ e => e)).keep c5 (fun b hb e => by have := hD b hb; have := f3 b e; omega)
    refine cw_region rfl ?_
    conv => whnf
    have ll : (accP s ms t ++ Sha.eight m.length).length = (accP s ms t).length + 8 := by rw [List.length_append, e8]
    have ll2 : (accP s ms (t + 1)).length = (accP s ms t).length + 8 + m.length := by rw [hmm, List.length_append, ll]
    refine ⟨_, rfl, _, append_bytes (ty := 33) o5 hu5.1 (by omega), ?_⟩
    rintro v6 h6 ⟨o6, c6, f6⟩
    have z6 := c6.size
    rw [← hmm] at o6
    refine cw_region rfl ?_
    have g5 : ∀ b, ob (.slice a5 (accP s ms t ++ Sha.eight m.length).length k5) b → h.size ≤ b := fun b hb => (f5 b hb).elim (fun e => f3 b e) (fun e => by omega)
    exact ⟨(t + 1, v6), ⟨rfl, rfl, rfl, slot_i64 _ _ (by simp only []; omega) (by simp only []; omega), trivial⟩, ⟨hlt, o6, ⟨by omega, fun b hb => by
        rw [c6.block b (by omega) (fun e => by have := g5 b e; omega), c5.block b (by omega) (fun e => by have := f3 b e; omega), x4.block b (by omega), x3.block b hb]⟩,
      fun b hb => (f6 b hb).elim (fun e => g5 b e) (fun e => by omega)⟩, by show ms.length - (t + 1) < ms.length - t; omega⟩
  · refine cw_seq (cw_no rfl (by show ¬ (t : Int) < (ms.length : Int); omega) (cw_exit ?_))
    have tn : t = ms.length := by omega
    subst tn
    refine cw_seq (cw_region rfl ?_)
    refine cw_ret ⟨_, rfl, ?_, x3, f3⟩
    have : accP s ms ms.length = Sha.pre s ms := by unfold accP; rw [List.take_length]
    rw [← this]
    exact o3
end Go.Proofs.YtgecapllodgdeaaGreatDoor
