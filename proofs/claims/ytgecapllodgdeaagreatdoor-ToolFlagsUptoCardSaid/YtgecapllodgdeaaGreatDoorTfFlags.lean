/-
  tool.may, and the document's May.
  The document's flag.
  tool.Flags: what it answers, and the walk.
-/
import Derived.Test.YtgecapllodgdeaaGreatDoorTfBridge
import Derived.Test.YtgecapllodgdeaaGreatDoorVmGo
namespace Go.Proofs.YtgecapllodgdeaaGreatDoor
open Go Vm
set_option maxRecDepth 100000
set_option linter.unusedVariables false
set_option linter.unusedSimpArgs false
structure Tl where
  s : Int
  m : Int
  r : Int
def tlC (t : Tl) : List Value := [.int .i64 t.s, .int .i64 t.m, .int .i64 t.r]
def mayS (t : Tl) : Bool := decide (t.s ≥ 1) && decide (t.s ≤ 64) && decide (t.m ≥ 1) && decide (t.m ≤ 4096) && decide (t.r ≥ 1) && decide (t.r ≤ 4194304)
theorem may_fn (t : Tl) (h : Heap) : Fx Tryz.prog 14 #[.agg (tlC t).toArray] h fun u h' => u = .bool (mayS t) ∧ ExtH h h' := by
  refine fn_of 31 Tryz.func14 rfl (by kernel_rfl) rfl (by simp) ?_
  refine cw_seq (cw_region rfl ?_)
  conv => whnf
  intro h1 n1
  conv => whnf
  have y1 : Blk h1 h.size (tlC t) 24 := n1.blk
  unfold mayS
  refine cw_seq (cw_go rfl ?_)
  repeat' ((conv => whnf); first | refine ⟨_, Blk.rd ‹Blk _ _ _ _› rfl, ?_⟩ | refine ⟨_, rd_up ‹ExtH _ _› (Blk.rd ‹Blk _ _ _ _› rfl), ?_⟩ | refine And.intro ⟨by omega, by omega⟩ ?_ | refine say_i (by omega) ?_ | refine say_u8 (by omega) ?_ | refine say_u64 (by omega) ?_ | refine say_len ?_ | refine say_at ⟨by omega, by omega⟩ ?_ | refine say_to (by omega) (by omega) ?_ | refine say_from (by omega) (by omega) ?_ | refine say_t (by omega) ?_ | refine say_f (by omega) ?_ | refine say_d (fun _ => ?_) (fun _ => ?_))
  all_goals exact cw_ret ⟨by simp [one, *], n1.ext⟩
theorem rmay_fn (t : Tl) (h : Heap) : Fx Tryz.prog 16 #[.agg (tlC t).toArray] h fun u h' => u = .bool (mayS t) ∧ ExtH h h' := by
  refine fn_of 31 Tryz.func16 rfl (by kernel_rfl) rfl (by simp) ?_
  refine cw_seq (cw_region rfl ?_)
  conv => whnf
  intro h1 n1
  conv => whnf
  have y1 : Blk h1 h.size (tlC t) 24 := n1.blk
  unfold mayS
  refine cw_seq (cw_go rfl ?_)
  repeat' ((conv => whnf); first | refine ⟨_, Blk.rd ‹Blk _ _ _ _› rfl, ?_⟩ | refine ⟨_, rd_up ‹ExtH _ _› (Blk.rd ‹Blk _ _ _ _› rfl), ?_⟩ | refine And.intro ⟨by omega, by omega⟩ ?_ | refine say_i (by omega) ?_ | refine say_u8 (by omega) ?_ | refine say_u64 (by omega) ?_ | refine say_len ?_ | refine say_at ⟨by omega, by omega⟩ ?_ | refine say_to (by omega) (by omega) ?_ | refine say_from (by omega) (by omega) ?_ | refine say_t (by omega) ?_ | refine say_f (by omega) ?_ | refine say_d (fun _ => ?_) (fun _ => ?_))
  all_goals exact cw_ret ⟨by simp [one, *], n1.ext⟩
end Go.Proofs.YtgecapllodgdeaaGreatDoor
namespace Go.Proofs.YtgecapllodgdeaaGreatDoor
open Go Vm
set_option maxRecDepth 100000
set_option linter.unusedVariables false
set_option linter.unusedSimpArgs false
def flagL : List UInt8 → Int → Option Int
  | [], n => some n
  | c :: r, n => if (c.toNat : Int) < 48 ∨ 57 < (c.toNat : Int) ∨ 1099511627776 < n then none else flagL r (10 * n + (c.toNat - 48))
def flagS (s w : List UInt8) : Int × Bool :=
  if s.length ≤ w.length ∨ s.take w.length ≠ w then (0, false) else match flagL (s.drop w.length) 0 with
    | none => (0, false)
    | some n => (n, decide (Lib.itoa n = s.drop w.length))
theorem flagL_le : ∀ (l : List UInt8) (n m : Int), 0 ≤ n → n ≤ 10995116277769 → flagL l n = some m → 0 ≤ m ∧ m ≤ 10995116277769
  | [], n, m, h1, h2, h => by simp only [flagL, Option.some.injEq] at h; omega
  | c :: r, n, m, h1, h2, h => by
    unfold flagL at h
    split at h
    · cases h
    · rename_i hc
      refine flagL_le r _ m ?_ ?_ h <;> omega
theorem getD_drop (s : List UInt8) (i : Nat) (h : i < s.length) : s.drop i = s.getD i 0 :: s.drop (i + 1) := by
  rw [List.drop_eq_getElem_cons h, List.getD_eq_getElem?_getD, List.getElem?_eq_getElem h]; rfl
theorem u8_int (c : UInt8) : (c.toNat : Int) < 256 := by have := c.toNat_lt; omega
theorem flag_fn (s w : List UInt8) {h : Heap} (G : Gl h) (hs : s.length ≤ 1000000000) (hw : w.length ≤ 1000) :
    Fx Tryz.prog 15 #[.string (bs s), .string (bs w)] h fun u h' => u = .tuple #[.int .i64 (flagS s w).1, .bool (flagS s w).2] ∧ ExtH h h' := by
  refine fn_of 59 Tryz.func15 rfl (by kernel_rfl) rfl (by simp) ?_
  unfold flagS
  refine cw_seq (cw_go rfl ?_)
  conv => whnf
  refine cw_seq (cw_seq (cw_go rfl ?_))
  repeat ((conv => whnf); first | refine ⟨_, Blk.rd ‹Blk _ _ _ _› rfl, ?_⟩ | refine ⟨_, rd_up ‹ExtH _ _› (Blk.rd ‹Blk _ _ _ _› rfl), ?_⟩ | refine And.intro ⟨by omega, by omega⟩ ?_ | refine say_i (by omega) ?_ | refine say_u8 (by omega) ?_ | refine say_u64 (by omega) ?_ | refine say_len ?_ | refine say_at ⟨by omega, by omega⟩ ?_ | refine say_to (by omega) (by omega) ?_ | refine say_from (by omega) (by omega) ?_ | refine say_t (by omega) ?_ | refine say_f (by omega) ?_)
  try (conv => whnf)
  by_cases h1 : s.length ≤ w.length
  · rw [if_pos (.inl h1)]
    refine say_t (by omega) ?_
    repeat ((conv => whnf); first | refine ⟨_, Blk.rd ‹Blk _ _ _ _› rfl, ?_⟩ | refine ⟨_, rd_up ‹ExtH _ _› (Blk.rd ‹Blk _ _ _ _› rfl), ?_⟩ | refine And.intro ⟨by omega, by omega⟩ ?_ | refine say_i (by omega) ?_ | refine say_u8 (by omega) ?_ | refine say_u64 (by omega) ?_ | refine say_len ?_ | refine say_at ⟨by omega, by omega⟩ ?_ | refine say_to (by omega) (by omega) ?_ | refine say_from (by omega) (by omega) ?_ | refine say_t (by omega) ?_ | refine say_f (by omega) ?_)
    try (conv => whnf)
    refine cw_true rfl ?_
    refine cw_seq (cw_go rfl ?_)
    conv => whnf
    exact cw_ret ⟨rfl, ExtH.refl _⟩
  refine say_f (by omega) ?_
  repeat ((conv => whnf); first | refine ⟨_, Blk.rd ‹Blk _ _ _ _› rfl, ?_⟩ | refine ⟨_, rd_up ‹ExtH _ _› (Blk.rd ‹Blk _ _ _ _› rfl), ?_⟩ | refine And.intro ⟨by omega, by omega⟩ ?_ | refine say_i (by omega) ?_ | refine say_u8 (by omega) ?_ | refine say_u64 (by omega) ?_ | refine say_len ?_ | refine say_at ⟨by omega, by omega⟩ ?_ | refine say_to (by omega) (by omega) ?_ | refine say_from (by omega) (by omega) ?_ | refine say_t (by omega) ?_ | refine say_f (by omega) ?_)
  try (conv => whnf)
  by_cases h2 : s.take w.length = w
  · refine say_sne (fun h => absurd ?_ h) (fun _ => ?_)
    · rw [show ((w.length : Int)).toNat = w.length by omega]; exact h2
    repeat ((conv => whnf); first | refine ⟨_, Blk.rd ‹Blk _ _ _ _› rfl, ?_⟩ | refine ⟨_, rd_up ‹ExtH _ _› (Blk.rd ‹Blk _ _ _ _› rfl), ?_⟩ | refine And.intro ⟨by omega, by omega⟩ ?_ | refine say_i (by omega) ?_ | refine say_u8 (by omega) ?_ | refine say_u64 (by omega) ?_ | refine say_len ?_ | refine say_at ⟨by omega, by omega⟩ ?_ | refine say_to (by omega) (by omega) ?_ | refine say_from (by omega) (by omega) ?_ | refine say_t (by omega) ?_ | refine say_f (by omega) ?_)
    try (conv => whnf)
    refine cw_false rfl (cw_skip ?_)
    rw [if_neg (by simp [h1, h2])]
    generalize hres : flagL (s.drop w.length) 0 = res
    refine cw_seq (cw_go rfl ?_)
    conv => whnf
    refine cw_seq (cw_seq (cw_go rfl ?_))
    repeat ((conv => whnf); first | refine ⟨_, Blk.rd ‹Blk _ _ _ _› rfl, ?_⟩ | refine ⟨_, rd_up ‹ExtH _ _› (Blk.rd ‹Blk _ _ _ _› rfl), ?_⟩ | refine And.intro ⟨by omega, by omega⟩ ?_ | refine say_i (by omega) ?_ | refine say_u8 (by omega) ?_ | refine say_u64 (by omega) ?_ | refine say_len ?_ | refine say_at ⟨by omega, by omega⟩ ?_ | refine say_to (by omega) (by omega) ?_ | refine say_from (by omega) (by omega) ?_ | refine say_t (by omega) ?_ | refine say_f (by omega) ?_)
    try (conv => whnf)
    refine cw_block ?_
    refine cw_loop (S := Nat × Int) (fun t => [(0, .string (bs s)), (1, .string (bs w)), (6, .int .i64 t.2), (7, .int .i64 (t.1 : Int))])
      (fun t h' => w.length ≤ t.1 ∧ t.1 ≤ s.length ∧ 0 ≤ t.2 ∧ t.2 ≤ 10995116277769 ∧ res = flagL (s.drop t.1) t.2 ∧ h' = h) (fun t => s.length - t.1) (w.length, 0) ⟨rfl, rfl, rfl, rfl, trivial⟩ ⟨Nat.le_refl _, by show w.length ≤ _; omega, Int.le_refl _, by show (0 : Int) ≤ _; decide, hres.symm, rfl⟩ ?_
    rintro ⟨t, n⟩ _ ⟨ht1, ht2, hn1, hn2, hfl, rfl⟩
    simp only at ht1 ht2 hn1 hn2 hfl
    refine cw_seq (cw_seq (cw_go rfl ?_))
    repeat ((conv => whnf); first | refine ⟨_, Blk.rd ‹Blk _ _ _ _› rfl, ?_⟩ | refine ⟨_, rd_up ‹ExtH _ _› (Blk.rd ‹Blk _ _ _ _› rfl), ?_⟩ | refine And.intro ⟨by omega, by omega⟩ ?_ | refine say_i (by omega) ?_ | refine say_u8 (by omega) ?_ | refine say_u64 (by omega) ?_ | refine say_len ?_ | refine say_at ⟨by omega, by omega⟩ ?_ | refine say_to (by omega) (by omega) ?_ | refine say_from (by omega) (by omega) ?_ | refine say_t (by omega) ?_ | refine say_f (by omega) ?_)
    try (conv => whnf)
    by_cases hlt : t < s.length
    · refine say_t (by omega) ?_
      refine cw_true rfl ?_
      refine cw_skip ?_
      have hc := u8_int (s.getD t 0)
      rw [getD_drop s t hlt] at hfl
      unfold flagL at hfl
      refine cw_seq (cw_block ?_)
      refine cw_seq (cw_seq (cw_go rfl ?_))
      repeat ((conv => whnf); first | refine ⟨_, Blk.rd ‹Blk _ _ _ _› rfl, ?_⟩ | refine ⟨_, rd_up ‹ExtH _ _› (Blk.rd ‹Blk _ _ _ _› rfl), ?_⟩ | refine And.intro ⟨by omega, by omega⟩ ?_ | refine say_i (by omega) ?_ | refine say_u8 (by omega) ?_ | refine say_u64 (by omega) ?_ | refine say_len ?_ | refine say_at ⟨by omega, by omega⟩ ?_ | refine say_to (by omega) (by omega) ?_ | refine say_from (by omega) (by omega) ?_ | refine say_t (by omega) ?_ | refine say_f (by omega) ?_)
      try (conv => whnf)
      rw [show ((t : Int)).toNat = t by omega]
      by_cases c1 : ((s.getD t 0).toNat : Int) < 48
      · rw [if_pos (.inl c1)] at hfl
        rw [hfl]
        repeat ((conv => whnf); first | refine ⟨_, Blk.rd ‹Blk _ _ _ _› rfl, ?_⟩ | refine ⟨_, rd_up ‹ExtH _ _› (Blk.rd ‹Blk _ _ _ _› rfl), ?_⟩ | refine And.intro ⟨by omega, by omega⟩ ?_ | refine say_i (by omega) ?_ | refine say_u8 (by omega) ?_ | refine say_u64 (by omega) ?_ | refine say_len ?_ | refine say_at ⟨by omega, by omega⟩ ?_ | refine say_to (by omega) (by omega) ?_ | refine say_from (by omega) (by omega) ?_ | refine say_t (by omega) ?_ | refine say_f (by omega) ?_)
        try (conv => whnf)
        refine cw_true rfl ?_
        refine cw_seq (cw_go rfl ?_)
        exact cw_ret ⟨rfl, ExtH.refl _⟩
      by_cases c2 : 57 < ((s.getD t 0).toNat : Int)
      · rw [if_pos (.inr (.inl c2))] at hfl
        rw [hfl]
        repeat ((conv => whnf); first | refine ⟨_, Blk.rd ‹Blk _ _ _ _› rfl, ?_⟩ | refine ⟨_, rd_up ‹ExtH _ _› (Blk.rd ‹Blk _ _ _ _› rfl), ?_⟩ | refine And.intro ⟨by omega, by omega⟩ ?_ | refine say_i (by omega) ?_ | refine say_u8 (by omega) ?_ | refine say_u64 (by omega) ?_ | refine say_len ?_ | refine say_at ⟨by omega, by omega⟩ ?_ | refine say_to (by omega) (by omega) ?_ | refine say_from (by omega) (by omega) ?_ | refine say_t (by omega) ?_ | refine say_f (by omega) ?_)
        try (conv => whnf)
        rw [show ((t : Int)).toNat = t by omega]
        repeat ((conv => whnf); first | refine ⟨_, Blk.rd ‹Blk _ _ _ _› rfl, ?_⟩ | refine ⟨_, rd_up ‹ExtH _ _› (Blk.rd ‹Blk _ _ _ _› rfl), ?_⟩ | refine And.intro ⟨by omega, by omega⟩ ?_ | refine say_i (by omega) ?_ | refine say_u8 (by omega) ?_ | refine say_u64 (by omega) ?_ | refine say_len ?_ | refine say_at ⟨by omega, by omega⟩ ?_ | refine say_to (by omega) (by omega) ?_ | refine say_from (by omega) (by omega) ?_ | refine say_t (by omega) ?_ | refine say_f (by omega) ?_)
        try (conv => whnf)
        refine cw_true rfl ?_
        refine cw_seq (cw_go rfl ?_)
        exact cw_ret ⟨rfl, ExtH.refl _⟩
      by_cases c3 : 1099511627776 < n
      · rw [if_pos (.inr (.inr c3))] at hfl
        rw [hfl]
        repeat ((conv => whnf); first | refine ⟨_, Blk.rd ‹Blk _ _ _ _› rfl, ?_⟩ | refine ⟨_, rd_up ‹ExtH _ _› (Blk.rd ‹Blk _ _ _ _› rfl), ?_⟩ | refine And.intro ⟨by omega, by omega⟩ ?_ | refine say_i (by omega) ?_ | refine say_u8 (by omega) ?_ | refine say_u64 (by omega) ?_ | refine say_len ?_ | refine say_at ⟨by omega, by omega⟩ ?_ | refine say_to (by omega) (by omega) ?_ | refine say_from (by omega) (by omega) ?_ | refine say_t (by omega) ?_ | refine say_f (by omega) ?_)
        try (conv => whnf)
        rw [show ((t : Int)).toNat = t by omega]
        repeat ((conv => whnf); first | refine ⟨_, Blk.rd ‹Blk _ _ _ _› rfl, ?_⟩ | refine ⟨_, rd_up ‹ExtH _ _› (Blk.rd ‹Blk _ _ _ _› rfl), ?_⟩ | refine And.intro ⟨by omega, by omega⟩ ?_ | refine say_i (by omega) ?_ | refine say_u8 (by omega) ?_ | refine say_u64 (by omega) ?_ | refine say_len ?_ | refine say_at ⟨by omega, by omega⟩ ?_ | refine say_to (by omega) (by omega) ?_ | refine say_from (by omega) (by omega) ?_ | refine say_t (by omega) ?_ | refine say_f (by omega) ?_)
        try (conv => whnf)
        refine cw_true rfl ?_
        refine cw_seq (cw_go rfl ?_)
        exact cw_ret ⟨rfl, ExtH.refl _⟩
      rw [if_neg (by omega)] at hfl
      repeat ((conv => whnf); first | refine ⟨_, Blk.rd ‹Blk _ _ _ _› rfl, ?_⟩ | refine ⟨_, rd_up ‹ExtH _ _› (Blk.rd ‹Blk _ _ _ _› rfl), ?_⟩ | refine And.intro ⟨by omega, by omega⟩ ?_ | refine say_i (by omega) ?_ | refine say_u8 (by omega) ?_ | refine say_u64 (by omega) ?_ | refine say_len ?_ | refine say_at ⟨by omega, by omega⟩ ?_ | refine say_to (by omega) (by omega) ?_ | refine say_from (by omega) (by omega) ?_ | refine say_t (by omega) ?_ | refine say_f (by omega) ?_)
      try (conv => whnf)
      rw [show ((t : Int)).toNat = t by omega]
      repeat ((conv => whnf); first | refine ⟨_, Blk.rd ‹Blk _ _ _ _› rfl, ?_⟩ | refine ⟨_, rd_up ‹ExtH _ _› (Blk.rd ‹Blk _ _ _ _› rfl), ?_⟩ | refine And.intro ⟨by omega, by omega⟩ ?_ | refine say_i (by omega) ?_ | refine say_u8 (by omega) ?_ | refine say_u64 (by omega) ?_ | refine say_len ?_ | refine say_at ⟨by omega, by omega⟩ ?_ | refine say_to (by omega) (by omega) ?_ | refine say_from (by omega) (by omega) ?_ | refine say_t (by omega) ?_ | refine say_f (by omega) ?_)
      try (conv => whnf)
      refine cw_false rfl (cw_skip ?_)
      refine cw_go rfl ?_
      repeat ((conv => whnf); first | refine ⟨_, Blk.rd ‹Blk _ _ _ _› rfl, ?_⟩ | refine ⟨_, rd_up ‹ExtH _ _› (Blk.rd ‹Blk _ _ _ _› rfl), ?_⟩ | refine And.intro ⟨by omega, by omega⟩ ?_ | refine say_i (by omega) ?_ | refine say_u8 (by omega) ?_ | refine say_u64 (by omega) ?_ | refine say_len ?_ | refine say_at ⟨by omega, by omega⟩ ?_ | refine say_to (by omega) (by omega) ?_ | refine say_from (by omega) (by omega) ?_ | refine say_t (by omega) ?_ | refine say_f (by omega) ?_)
      try (conv => whnf)
      rw [show ((t : Int)).toNat = t by omega]
      repeat ((conv => whnf); first | refine ⟨_, Blk.rd ‹Blk _ _ _ _› rfl, ?_⟩ | refine ⟨_, rd_up ‹ExtH _ _› (Blk.rd ‹Blk _ _ _ _› rfl), ?_⟩ | refine And.intro ⟨by omega, by omega⟩ ?_ | refine say_i (by omega) ?_ | refine say_u8 (by omega) ?_ | refine say_u64 (by omega) ?_ | refine say_len ?_ | refine say_at ⟨by omega, by omega⟩ ?_ | refine say_to (by omega) (by omega) ?_ | refine say_from (by omega) (by omega) ?_ | refine say_t (by omega) ?_ | refine say_f (by omega) ?_)
      try (conv => whnf)
      refine cw_go rfl ?_
      repeat ((conv => whnf); first | refine ⟨_, Blk.rd ‹Blk _ _ _ _› rfl, ?_⟩ | refine ⟨_, rd_up ‹ExtH _ _› (Blk.rd ‹Blk _ _ _ _› rfl), ?_⟩ | refine And.intro ⟨by omega, by omega⟩ ?_ | refine say_i (by omega) ?_ | refine say_u8 (by omega) ?_ | refine say_u64 (by omega) ?_ | refine say_len ?_ | refine say_at ⟨by omega, by omega⟩ ?_ | refine say_to (by omega) (by omega) ?_ | refine say_from (by omega) (by omega) ?_ | refine say_t (by omega) ?_ | refine say_f (by omega) ?_)
      try (conv => whnf)
      exact ⟨(t + 1, 10 * n + ((s.getD t 0).toNat - 48)), ⟨rfl, rfl, rfl, rfl, trivial⟩, ⟨by show w.length ≤ t + 1; omega, by show t + 1 ≤ _; omega, by show 0 ≤ 10 * n + _; omega, by show 10 * n + _ ≤ _; omega, hfl, rfl⟩, by show s.length - (t + 1) < s.length - t; omega⟩
    · refine say_f (by omega) ?_
      conv => whnf
      refine cw_false rfl (cw_exit ?_)
      have ht : t = s.length := by omega
      subst ht
      rw [List.drop_length] at hfl
      unfold flagL at hfl
      subst hfl
      refine cw_seq (cw_dgo (by kernel_rfl) 9 (List.range 9) (by kernel_rfl) rfl ?_)
      repeat ((conv => whnf); first | refine ⟨_, Blk.rd ‹Blk _ _ _ _› rfl, ?_⟩ | refine ⟨_, rd_up ‹ExtH _ _› (Blk.rd ‹Blk _ _ _ _› rfl), ?_⟩ | refine And.intro ⟨by omega, by omega⟩ ?_ | refine say_i (by omega) ?_ | refine say_u8 (by omega) ?_ | refine say_u64 (by omega) ?_ | refine say_len ?_ | refine say_at ⟨by omega, by omega⟩ ?_ | refine say_to (by omega) (by omega) ?_ | refine say_from (by omega) (by omega) ?_ | refine say_t (by omega) ?_ | refine say_f (by omega) ?_)
      try (conv => whnf)
      refine ⟨_, rfl, _, (fun h1 e => itoa_fn n (by omega) (by omega) (G.more e)), ?_⟩
      repeat ((conv => whnf); first | refine ⟨_, Blk.rd ‹Blk _ _ _ _› rfl, ?_⟩ | refine ⟨_, rd_up ‹ExtH _ _› (Blk.rd ‹Blk _ _ _ _› rfl), ?_⟩ | refine And.intro ⟨by omega, by omega⟩ ?_ | refine say_i (by omega) ?_ | refine say_u8 (by omega) ?_ | refine say_u64 (by omega) ?_ | refine say_len ?_ | refine say_at ⟨by omega, by omega⟩ ?_ | refine say_to (by omega) (by omega) ?_ | refine say_from (by omega) (by omega) ?_ | refine say_t (by omega) ?_ | refine say_f (by omega) ?_)
      try (conv => whnf)
      refine say_seq (fun h3 => ?_) (fun h3 => ?_)
      · repeat ((conv => whnf); first | refine ⟨_, Blk.rd ‹Blk _ _ _ _› rfl, ?_⟩ | refine ⟨_, rd_up ‹ExtH _ _› (Blk.rd ‹Blk _ _ _ _› rfl), ?_⟩ | refine And.intro ⟨by omega, by omega⟩ ?_ | refine say_i (by omega) ?_ | refine say_u8 (by omega) ?_ | refine say_u64 (by omega) ?_ | refine say_len ?_ | refine say_at ⟨by omega, by omega⟩ ?_ | refine say_to (by omega) (by omega) ?_ | refine say_from (by omega) (by omega) ?_ | refine say_t (by omega) ?_ | refine say_f (by omega) ?_)
        try (conv => whnf)
        intro h4 e4
        repeat ((conv => whnf); first | refine ⟨_, Blk.rd ‹Blk _ _ _ _› rfl, ?_⟩ | refine ⟨_, rd_up ‹ExtH _ _› (Blk.rd ‹Blk _ _ _ _› rfl), ?_⟩ | refine And.intro ⟨by omega, by omega⟩ ?_ | refine say_i (by omega) ?_ | refine say_u8 (by omega) ?_ | refine say_u64 (by omega) ?_ | refine say_len ?_ | refine say_at ⟨by omega, by omega⟩ ?_ | refine say_to (by omega) (by omega) ?_ | refine say_from (by omega) (by omega) ?_ | refine say_t (by omega) ?_ | refine say_f (by omega) ?_)
        try (conv => whnf)
        refine cw_ret ⟨?_, e4⟩
        rw [show ((w.length : Int)).toNat = w.length by omega] at h3
        simp [one, h3]
      · repeat ((conv => whnf); first | refine ⟨_, Blk.rd ‹Blk _ _ _ _› rfl, ?_⟩ | refine ⟨_, rd_up ‹ExtH _ _› (Blk.rd ‹Blk _ _ _ _› rfl), ?_⟩ | refine And.intro ⟨by omega, by omega⟩ ?_ | refine say_i (by omega) ?_ | refine say_u8 (by omega) ?_ | refine say_u64 (by omega) ?_ | refine say_len ?_ | refine say_at ⟨by omega, by omega⟩ ?_ | refine say_to (by omega) (by omega) ?_ | refine say_from (by omega) (by omega) ?_ | refine say_t (by omega) ?_ | refine say_f (by omega) ?_)
        try (conv => whnf)
        intro h4 e4
        repeat ((conv => whnf); first | refine ⟨_, Blk.rd ‹Blk _ _ _ _› rfl, ?_⟩ | refine ⟨_, rd_up ‹ExtH _ _› (Blk.rd ‹Blk _ _ _ _› rfl), ?_⟩ | refine And.intro ⟨by omega, by omega⟩ ?_ | refine say_i (by omega) ?_ | refine say_u8 (by omega) ?_ | refine say_u64 (by omega) ?_ | refine say_len ?_ | refine say_at ⟨by omega, by omega⟩ ?_ | refine say_to (by omega) (by omega) ?_ | refine say_from (by omega) (by omega) ?_ | refine say_t (by omega) ?_ | refine say_f (by omega) ?_)
        try (conv => whnf)
        refine cw_ret ⟨?_, e4⟩
        rw [show ((w.length : Int)).toNat = w.length by omega] at h3
        simp [one, h3]
  · refine say_sne (fun _ => ?_) (fun h => absurd h h2)
    repeat ((conv => whnf); first | refine ⟨_, Blk.rd ‹Blk _ _ _ _› rfl, ?_⟩ | refine ⟨_, rd_up ‹ExtH _ _› (Blk.rd ‹Blk _ _ _ _› rfl), ?_⟩ | refine And.intro ⟨by omega, by omega⟩ ?_ | refine say_i (by omega) ?_ | refine say_u8 (by omega) ?_ | refine say_u64 (by omega) ?_ | refine say_len ?_ | refine say_at ⟨by omega, by omega⟩ ?_ | refine say_to (by omega) (by omega) ?_ | refine say_from (by omega) (by omega) ?_ | refine say_t (by omega) ?_ | refine say_f (by omega) ?_)
    try (conv => whnf)
    refine cw_true rfl ?_
    rw [if_pos (.inr h2)]
    refine cw_seq (cw_go rfl ?_)
    conv => whnf
    exact cw_ret ⟨rfl, ExtH.refl _⟩
end Go.Proofs.YtgecapllodgdeaaGreatDoor
namespace Go.Proofs.YtgecapllodgdeaaGreatDoor
open Go Vm
set_option maxRecDepth 100000
set_option linter.unusedVariables false
set_option linter.unusedSimpArgs false
def strv (s : List UInt8) : Value := .string (bs s)
/-- texts that are read -/
def RT (h : Heap) (v : Value) (l : List (List UInt8)) : Prop := Vm.Src h 1 v l.length (l.map strv)
theorem RT.more {h h' : Heap} {v : Value} {l : List (List UInt8)} (r : RT h v l) (e : ExtH h h') : RT h' v l := Vm.Src.more r e
theorem RT.fix {h : Heap} {v : Value} {l : List (List UInt8)} (r : RT h v l) : ∃ a c, v = .slice a l.length c ∧ l.length ≤ maxLen := by
  obtain ⟨a, c, e, h1, h2⟩ := Vm.Src.form r
  exact ⟨a, c, e, by omega⟩
theorem RT.get {h : Heap} {a : Option Addr} {n c : Nat} {l : List (List UInt8)} (r : RT h (.slice a n c) l) (t : Nat) (hlt : t < l.length) : ∃ b o, a = some ⟨b, o, none⟩ ∧ rd h ⟨b, o + t, none⟩ = some (strv (l.getD t [])) := by
  rcases r.2 with ⟨h1, h2⟩ | ⟨A, cap, h1, hc, hm, hr⟩
  · omega
  · injection h1 with h1
    have hne : l.map strv ≠ [] := by intro e; simp at e; subst e; simp at hlt
    have hs := hr.spot hne
    rw [hs, rdA_plain] at hr
    refine ⟨A.block, A.off, by rw [← hs]; exact h1, hr t _ ?_⟩
    rw [List.getElem?_map, List.getElem?_eq_getElem hlt, List.getD_eq_getElem?_getD, List.getElem?_eq_getElem hlt]
    rfl
def wSlots : List UInt8 := [115, 108, 111, 116, 115]
def wMemo : List UInt8 := [109, 101, 109, 111]
def wRoom : List UInt8 := [114, 111, 111, 109]
def t0 : Tl := ⟨4, 64, 65536⟩
def tz : Tl := ⟨0, 0, 0⟩
def one1 : Value := .int .i64 1
/-- one flag -/
def pstep (x : Tl × MapL) (s : List UInt8) : Option (Tl × MapL) :=
  match Lib.atoiAll (Lib.cut s [61]).2.1 with
  | .ok n =>
    if Lib.itoa n ≠ (Lib.cut s [61]).2.1 then none else if (mget x.2 (Lib.cut s [61]).1).isSome then none else
    if (Lib.cut s [61]).1 = wSlots then some ({ x.1 with s := n }, mput wSlots one1 x.2) else
    if (Lib.cut s [61]).1 = wMemo then some ({ x.1 with m := n }, mput wMemo one1 x.2) else
    if (Lib.cut s [61]).1 = wRoom then some ({ x.1 with r := n }, mput wRoom one1 x.2) else none
  | _ => none
def pflags : List (List UInt8) → Tl × MapL → Option (Tl × MapL)
  | [], x => some x
  | s :: l, x => match pstep x s with
    | none => none
    | some y => pflags l y
def flagsP (l : List (List UInt8)) : Tl × Int :=
  match pflags l (t0, []) with
  | none => (tz, 250)
  | some x => if mayS x.1 then (x.1, 0) else (tz, 250)
theorem infoInt : (Tryz.prog.info? 3).map (fun i => (i.zero, i.size, i.bytes)) = some (some (.int .i64 0), 1, 8) := by kernel_rfl
def only1 (m : MapL) : Prop := ∀ p ∈ m, p.2 = one1
theorem only1_put {m : MapL} (h : only1 m) (s : List UInt8) : only1 (mput s one1 m) := by
  induction m with
  | nil => intro p hp; simp [mput] at hp; subst hp; rfl
  | cons q m ih =>
    unfold mput
    split
    · intro p hp
      rcases List.mem_cons.1 hp with rfl | hp
      · rfl
      · exact h p (by simp [hp])
    · intro p hp
      rcases List.mem_cons.1 hp with rfl | hp
      · exact h _ (by simp)
      · exact ih (fun p hp => h p (by simp [hp])) p hp
theorem only1_get {m : MapL} (h : only1 m) (s : List UInt8) : mget m s = none ∨ mget m s = some one1 := by
  induction m with
  | nil => exact .inl rfl
  | cons q m ih =>
    rw [mget_cons]
    split
    · exact .inr (by rw [h q (by simp)])
    · exact ih (fun p hp => h p (by simp [hp]))
theorem drop_getD {α : Type} (l : List α) (t : Nat) (d : α) (h : t < l.length) : l.drop t = l.getD t d :: l.drop (t + 1) := by
  rw [List.drop_eq_getElem_cons h, List.getD_eq_getElem?_getD, List.getElem?_eq_getElem h]; rfl
theorem store_tl {h : Heap} {b : Nat} {t u : Tl} {K : Heap → Prop} (hb : Blk h b (tlC t) 24) (H : ∀ h', Wrote h h' b (tlC u) 24 → K h') :
    ∃ l ty, Blk h b l ty ∧ (0 + (tlC u).toArray.size ≤ l.length ∧ (tlC u).toArray.size = 3 ∧ ∀ x ∈ (tlC u).toArray.toList, x.oneCell' = true) ∧ ∀ h', Wrote h h' b (splice l 0 (tlC u).toArray.toList) ty → K h' :=
  ⟨_, _, hb, ⟨by show 3 ≤ 3; decide, rfl, by simp [tlC, Value.oneCell']⟩, fun h' w => H h' (w.cast (by rfl))⟩
theorem atoiAll_in {l : List UInt8} {v : Int} (h : Lib.atoiAll l = .ok v) : -9223372036854775808 ≤ v ∧ v ≤ 9223372036854775807 := by
  unfold Lib.atoiAll at h
  split at h
  · cases h
  · simp only at h
    split at h
    · cases h
    · cases h
    · rename_i u hu
      split at h
      · cases h
      · split at h
        · cases h
        · injection h with h
          split at h <;> omega
theorem info_parts {o : Option TypeInfo} {a : Option Value} {b c : Nat} (h : o.map (fun i => (i.zero, i.size, i.bytes)) = some (a, b, c)) : ∃ i, o = some i ∧ i.zero = a ∧ i.size = b ∧ i.bytes = c := by
  cases o with
  | none => simp at h
  | some i =>
    simp only [Option.map_some, Option.some.injEq, Prod.mk.injEq] at h
    exact ⟨i, rfl, h⟩
theorem flags_fn {h : Heap} {v : Value} {l : List (List UInt8)} (G : Gl h) (r : RT h v l) (hl : l.length ≤ 1000000000) (hs : ∀ s ∈ l, s.length ≤ 1000000000) :
    Fx Tryz.prog 4 #[v] h fun u h' => u = .tuple #[.agg (tlC (flagsP l).1).toArray, .int .i64 (flagsP l).2] ∧ ExtH h h' := by
  refine fn_of 69 Tryz.func4 rfl (by kernel_rfl) rfl (by simp) ?_
  obtain ⟨va, vc, hve, hvm⟩ := r.fix
  subst hve
  unfold flagsP
  generalize hres : pflags l (t0, []) = res
  refine cw_seq (cw_go rfl ?_)
  intro h1 n1
  conv => whnf
  have y1 : Blk h1 h.size (tlC tz) 24 := n1.blk
  have x1 := n1.ext
  have z1 := n1.size
  clear n1
  refine cw_seq (cw_go rfl ?_)
  conv => whnf
  refine ⟨_, rfl, #[.int .i64 4, .int .i64 64, .int .i64 65536], fun w => by kernel_rfl, ?_⟩
  conv => whnf
  intro h2 n2
  conv => whnf
  have y2 : Blk h2 h1.size (tlC tz) 24 := n2.blk
  refine store_tl (u := t0) y2 ?_
  intro h3 w3
  have y3 := w3.new
  have z2 := n2.size
  have z3 := w3.size
  have x13 : ExtH h1 h3 := ⟨by omega, fun b hb => by rw [w3.block b (by omega), n2.block b hb]⟩
  have y1' := x13.blk y1
  clear n2 w3 y2
  refine cw_seq (cw_go rfl ?_)
  conv => whnf
  intro h4 n4
  have M4 : MapS h4 h3.size [] := MapS.new n4
  have y34 := n4.ext.blk y3
  have y14 := n4.ext.blk y1'
  have x4 : ExtH h h4 := (x1.trans x13).trans n4.ext
  have z4 := n4.size
  have hrb : h.size ≤ h.size := Nat.le_refl _
  have htb : h.size ≤ h1.size := by omega
  have hmb : h.size ≤ h3.size := by omega
  have hne : h.size ≠ h1.size := by omega
  clear n4 y1 y1' y3 x13 x1
  generalize h3.size = mb at M4 hmb z4
  generalize h1.size = tb at y34 htb hne z1 z2
  generalize hr : h.size = rb at y14 hne
  rw [← hr] at hne
  replace hrb : h.size ≤ rb := by omega
  rw [hr] at hne
  conv => whnf
  refine cw_seq (cw_seq (cw_go rfl ?_))
  conv => whnf
  refine cw_block ?_
  refine cw_loop (S := Nat × Tl × MapL) (fun s => [(2, .pointer (some ⟨rb, 0, none⟩)), (4, .pointer (some ⟨tb, 0, none⟩)), (5, .map (some mb)), (15, .slice va l.length vc), (16, .int .i64 (l.length : Int)), (17, .int .i64 (s.1 : Int))])
    (fun s h' => s.1 ≤ l.length ∧ Blk h' rb (tlC tz) 24 ∧ Blk h' tb (tlC s.2.1) 24 ∧ MapS h' mb s.2.2 ∧ only1 s.2.2 ∧ res = pflags (l.drop s.1) (s.2.1, s.2.2) ∧ ExtH h h') (fun s => l.length - s.1) (0, t0, []) ⟨rfl, rfl, rfl, rfl, rfl, rfl, trivial⟩
    ⟨by show 0 ≤ _; omega, y14, y34, M4, by intro p hp; simp at hp, hres.symm, x4⟩ ?_
  clear y14 y34 M4 x4 hres
  rintro ⟨t, x, m⟩ h5 ⟨ht, yr, yt, M, ho, hres, x5⟩
  simp only at ht yr yt M ho hres
  refine cw_seq (cw_go rfl ?_)
  conv => whnf
  by_cases hlt : t < l.length
  · refine say_t (by omega) ?_
    refine cw_seq (cw_true rfl (cw_skip ?_))
    rw [drop_getD l t [] hlt] at hres
    unfold pflags pstep at hres
    have hsl : (l.getD t []).length ≤ 1000000000 := by
      rw [List.getD_eq_getElem?_getD, List.getElem?_eq_getElem hlt]; exact hs _ (List.getElem_mem hlt)
    obtain ⟨b, o, rfl, hrd⟩ := (r.more x5).get t hlt
    generalize l.getD t [] = s at hres hsl hrd
    refine cw_seq (cw_block ?_)
    refine cw_seq (cw_go rfl ?_)
    conv => whnf
    refine And.intro ⟨by omega, by omega⟩ ?_
    conv => whnf
    refine ⟨_, by rwa [show ((t : Int)).toNat = t by omega], ?_⟩
    refine cw_seq (cw_go rfl ?_)
    conv => whnf
    refine ⟨_, rfl, _, cut_fn s [61] (G.more x5) hsl, ?_⟩
    rintro _ _ ⟨rfl, rfl⟩
    conv => whnf
    have hcl : (Lib.cut s [61]).2.1.length ≤ 1000000000 := by
      unfold Lib.cut
      split
      · rw [List.length_drop]; omega
      · simp
    generalize Lib.cut s [61] = c at hres hcl
    obtain ⟨c1, c2, c3⟩ := c
    simp only at hres hcl
    refine cw_seq (cw_go rfl ?_)
    conv => whnf
    refine ⟨_, rfl, _, atoi_fn c2 (G.more x5) hcl, ?_⟩
    rintro _ h6 ⟨x6, ⟨n, ha, rfl⟩ | ⟨ha, n, N, rfl⟩⟩
    · rw [ha] at hres
      simp only at hres
      have hn := atoiAll_in ha
      obtain ⟨i0, hi, hz0, _, _⟩ := info_parts infoInt
      refine cw_seq (cw_seq (cw_go rfl ?_))
      conv => whnf
      refine ⟨.bool false, fun w => by kernel_rfl, ?_⟩
      conv => whnf
      conv => whnf
      refine ⟨_, rfl, _, itoa_fn n hn.1 hn.2 (G.more (x5.trans x6)), ?_⟩
      rintro _ h7 ⟨rfl, x7⟩
      have x57 := x6.trans x7
      have x07 := x5.trans x57
      have yr7 := x57.blk yr
      have yt7 := x57.blk yt
      have M7 := M.more x57
      clear yr yt M x5 x6 x7 x57
      conv => whnf
      refine say_sne (fun hne2 => ?_) (fun heq => ?_)
      · rw [if_pos hne2] at hres
        conv => whnf
        subst hres
        refine cw_true rfl ?_
        refine cw_seq (cw_go rfl ?_)
        conv => whnf
        refine ⟨_, rfl, #[.int .i64 0, .int .i64 0, .int .i64 0], fun w => by kernel_rfl, ?_⟩
        conv => whnf
        conv => whnf
        refine store_tl (u := tz) yr7 ?_
        intro h9 w9
        conv => whnf
        have z9 := w9.size
        exact cw_ret ⟨_, rfl, w9.new.all, rfl, ⟨by have := (x07).size; omega, fun b hb => by rw [w9.block b (by omega), (x07).block b hb]⟩⟩
      · rw [if_neg (fun e => e heq)] at hres
        conv => whnf
        rcases only1_get ho c1 with e | e
        · rw [e] at hres
          simp only [Option.isSome_none, Bool.false_eq_true, if_false] at hres
          refine ⟨.int .i64 0, fun w hw => (lookup_s rfl rfl hi hz0 M7 c1 false w hw).trans (by rw [e]; rfl), ?_⟩
          conv => whnf
          refine say_f (by decide) ?_
          conv => whnf
          refine cw_false rfl (cw_skip ?_)
          refine cw_seq (cw_go rfl ?_)
          conv => whnf
          refine ⟨_, update_s rfl rfl M7 c1 one1, ?_⟩
          rintro h8 ⟨M8, c8⟩
          have yr8 := c8.blk yr7 (M7.ne yr7)
          have yt8 := c8.blk yt7 (M7.ne yt7)
          have ho8 := only1_put ho c1
          have x08 : ExtH h h8 := ⟨by have := x07.size; have := c8.size; omega, fun b hb => by have := x07.size; rw [c8.block b (by omega) (by omega), x07.block b hb]⟩
          clear M7 c8 yr7 yt7 x07
          refine cw_seq (cw_go rfl ?_)
          conv => whnf
          refine cw_block ?_
          refine cw_seq (cw_go rfl ?_)
          conv => whnf
          refine say_seq (b := wSlots) (fun hk => ?_) (fun hk => ?_)
          · subst hk
            rw [if_pos rfl] at hres
            simp only at hres
            conv => whnf
            refine cw_true rfl ?_
            refine cw_go rfl ?_
            conv => whnf
            refine ⟨_, _, yt8, by show 0 < 3; decide, ?_⟩
            intro h9 w9
            have yt9 : Blk h9 tb (tlC { x with s := n }) 24 := w9.new
            have z9 := w9.size
            refine cw_go rfl ?_
            repeat ((conv => whnf); first | refine ⟨_, Blk.rd ‹Blk _ _ _ _› rfl, ?_⟩ | refine ⟨_, rd_up ‹ExtH _ _› (Blk.rd ‹Blk _ _ _ _› rfl), ?_⟩ | refine And.intro ⟨by omega, by omega⟩ ?_ | refine say_i (by omega) ?_ | refine say_u8 (by omega) ?_ | refine say_u64 (by omega) ?_ | refine say_len ?_ | refine say_at ⟨by omega, by omega⟩ ?_ | refine say_to (by omega) (by omega) ?_ | refine say_from (by omega) (by omega) ?_ | refine say_t (by omega) ?_ | refine say_f (by omega) ?_)
            try (conv => whnf)
            exact ⟨(t + 1, { x with s := n }, mput wSlots one1 m), ⟨rfl, rfl, rfl, rfl, rfl, rfl, trivial⟩, ⟨by show t + 1 ≤ _; omega, w9.blk yr8 hne, yt9, M8.keep w9.chg (fun e => M8.ne yt8 e.symm), ho8, hres, ⟨by have := x08.size; omega, fun b hb => by rw [w9.block b (by omega), x08.block b hb]⟩⟩, by show l.length - (t + 1) < l.length - t; omega⟩
          rw [if_neg hk] at hres
          conv => whnf
          refine cw_false rfl ?_
          refine cw_seq (cw_go rfl ?_)
          conv => whnf
          refine say_seq (b := wMemo) (fun hk => ?_) (fun hk => ?_)
          · subst hk
            rw [if_pos rfl] at hres
            simp only at hres
            conv => whnf
            refine cw_true rfl ?_
            refine cw_go rfl ?_
            conv => whnf
            refine ⟨_, _, yt8, by show 1 < 3; decide, ?_⟩
            intro h9 w9
            have yt9 : Blk h9 tb (tlC { x with m := n }) 24 := w9.new
            have z9 := w9.size
            refine cw_go rfl ?_
            repeat ((conv => whnf); first | refine ⟨_, Blk.rd ‹Blk _ _ _ _› rfl, ?_⟩ | refine ⟨_, rd_up ‹ExtH _ _› (Blk.rd ‹Blk _ _ _ _› rfl), ?_⟩ | refine And.intro ⟨by omega, by omega⟩ ?_ | refine say_i (by omega) ?_ | refine say_u8 (by omega) ?_ | refine say_u64 (by omega) ?_ | refine say_len ?_ | refine say_at ⟨by omega, by omega⟩ ?_ | refine say_to (by omega) (by omega) ?_ | refine say_from (by omega) (by omega) ?_ | refine say_t (by omega) ?_ | refine say_f (by omega) ?_)
            try (conv => whnf)
            exact ⟨(t + 1, { x with m := n }, mput wMemo one1 m), ⟨rfl, rfl, rfl, rfl, rfl, rfl, trivial⟩, ⟨by show t + 1 ≤ _; omega, w9.blk yr8 hne, yt9, M8.keep w9.chg (fun e => M8.ne yt8 e.symm), ho8, hres, ⟨by have := x08.size; omega, fun b hb => by rw [w9.block b (by omega), x08.block b hb]⟩⟩, by show l.length - (t + 1) < l.length - t; omega⟩
          rw [if_neg hk] at hres
          conv => whnf
          refine cw_false rfl ?_
          refine cw_seq (cw_go rfl ?_)
          conv => whnf
          refine say_seq (b := wRoom) (fun hk => ?_) (fun hk => ?_)
          · subst hk
            rw [if_pos rfl] at hres
            simp only at hres
            conv => whnf
            refine cw_true rfl ?_
            refine cw_go rfl ?_
            conv => whnf
            refine ⟨_, _, yt8, by show 2 < 3; decide, ?_⟩
            intro h9 w9
            have yt9 : Blk h9 tb (tlC { x with r := n }) 24 := w9.new
            have z9 := w9.size
            refine cw_go rfl ?_
            repeat ((conv => whnf); first | refine ⟨_, Blk.rd ‹Blk _ _ _ _› rfl, ?_⟩ | refine ⟨_, rd_up ‹ExtH _ _› (Blk.rd ‹Blk _ _ _ _› rfl), ?_⟩ | refine And.intro ⟨by omega, by omega⟩ ?_ | refine say_i (by omega) ?_ | refine say_u8 (by omega) ?_ | refine say_u64 (by omega) ?_ | refine say_len ?_ | refine say_at ⟨by omega, by omega⟩ ?_ | refine say_to (by omega) (by omega) ?_ | refine say_from (by omega) (by omega) ?_ | refine say_t (by omega) ?_ | refine say_f (by omega) ?_)
            try (conv => whnf)
            exact ⟨(t + 1, { x with r := n }, mput wRoom one1 m), ⟨rfl, rfl, rfl, rfl, rfl, rfl, trivial⟩, ⟨by show t + 1 ≤ _; omega, w9.blk yr8 hne, yt9, M8.keep w9.chg (fun e => M8.ne yt8 e.symm), ho8, hres, ⟨by have := x08.size; omega, fun b hb => by rw [w9.block b (by omega), x08.block b hb]⟩⟩, by show l.length - (t + 1) < l.length - t; omega⟩
          rw [if_neg hk] at hres
          conv => whnf
          refine cw_false rfl ?_
          subst hres
          refine cw_seq (cw_go rfl ?_)
          conv => whnf
          refine ⟨_, rfl, #[.int .i64 0, .int .i64 0, .int .i64 0], fun w => by kernel_rfl, ?_⟩
          conv => whnf
          conv => whnf
          refine store_tl (u := tz) yr8 ?_
          intro h9 w9
          conv => whnf
          have z9 := w9.size
          exact cw_ret ⟨_, rfl, w9.new.all, rfl, ⟨by have := (x08).size; omega, fun b hb => by rw [w9.block b (by omega), (x08).block b hb]⟩⟩
        · rw [e] at hres
          simp only [Option.isSome_some, if_true] at hres
          refine ⟨one1, fun w hw => (lookup_s rfl rfl hi hz0 M7 c1 false w hw).trans (by rw [e]; rfl), ?_⟩
          conv => whnf
          refine say_t (by decide) ?_
          conv => whnf
          subst hres
          refine cw_true rfl ?_
          refine cw_seq (cw_go rfl ?_)
          conv => whnf
          refine ⟨_, rfl, #[.int .i64 0, .int .i64 0, .int .i64 0], fun w => by kernel_rfl, ?_⟩
          conv => whnf
          conv => whnf
          refine store_tl (u := tz) yr7 ?_
          intro h9 w9
          conv => whnf
          have z9 := w9.size
          exact cw_ret ⟨_, rfl, w9.new.all, rfl, ⟨by have := (x07).size; omega, fun b hb => by rw [w9.block b (by omega), (x07).block b hb]⟩⟩
    · have hres2 : res = none := by
        rw [hres]
        rcases hc : Lib.atoiAll c2 with v | _ | _
        · exact absurd hc (ha v)
        · rfl
        · rfl
      subst hres2
      clear hres
      refine cw_seq (cw_seq (cw_go rfl ?_))
      conv => whnf
      refine ⟨.bool true, fun w => by kernel_rfl, ?_⟩
      conv => whnf
      conv => whnf
      refine cw_true rfl ?_
      refine cw_seq (cw_go rfl ?_)
      conv => whnf
      refine ⟨_, rfl, #[.int .i64 0, .int .i64 0, .int .i64 0], fun w => by kernel_rfl, ?_⟩
      conv => whnf
      conv => whnf
      refine store_tl (u := tz) (x6.blk yr) ?_
      intro h9 w9
      conv => whnf
      have z9 := w9.size
      exact cw_ret ⟨_, rfl, w9.new.all, rfl, ⟨by have := ((x5.trans x6)).size; omega, fun b hb => by rw [w9.block b (by omega), ((x5.trans x6)).block b hb]⟩⟩
  · refine say_f (by omega) ?_
    refine cw_seq (cw_false rfl (cw_exit ?_))
    have ht2 : t = l.length := by omega
    subst ht2
    rw [List.drop_length] at hres
    unfold pflags at hres
    subst hres
    simp only
    refine cw_seq (cw_seq (cw_go rfl ?_))
    conv => whnf
    refine ⟨_, rfl, yt.all, ?_⟩
    conv => whnf
    refine ⟨_, rfl, _, may_fn x h5, ?_⟩
    rintro _ h6 ⟨rfl, x6⟩
    have yr6 := x6.blk yr
    have yt6 := x6.blk yt
    have x06 := x5.trans x6
    cases hm : mayS x
    · conv => whnf
      refine cw_true rfl ?_
      refine cw_seq (cw_go rfl ?_)
      conv => whnf
      refine ⟨_, rfl, #[.int .i64 0, .int .i64 0, .int .i64 0], fun w => by kernel_rfl, ?_⟩
      conv => whnf
      conv => whnf
      refine store_tl (u := tz) yr6 ?_
      intro h9 w9
      conv => whnf
      have z9 := w9.size
      exact cw_ret ⟨_, rfl, w9.new.all, rfl, ⟨by have := (x06).size; omega, fun b hb => by rw [w9.block b (by omega), (x06).block b hb]⟩⟩
    · conv => whnf
      refine cw_false rfl (cw_skip ?_)
      refine cw_seq (cw_go rfl ?_)
      conv => whnf
      refine ⟨_, rfl, yt6.all, ?_⟩
      conv => whnf
      refine store_tl (u := x) yr6 ?_
      intro h9 w9
      conv => whnf
      have z9 := w9.size
      exact cw_ret ⟨_, rfl, w9.new.all, rfl, ⟨by have := x06.size; omega, fun b hb => by rw [w9.block b (by omega), x06.block b hb]⟩⟩
end Go.Proofs.YtgecapllodgdeaaGreatDoor
