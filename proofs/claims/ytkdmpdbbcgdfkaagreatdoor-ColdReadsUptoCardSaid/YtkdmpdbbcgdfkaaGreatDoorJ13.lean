/-
  The document's reader: List.
  The document's reader: its end; a new one.
-/
import Derived.Test.YtkdmpdbbcgdfkaaGreatDoorJ12
namespace Go.Proofs.YtkdmpdbbcgdfkaaGreatDoor
open Go Vm
set_option maxRecDepth 100000
set_option linter.unusedVariables false
set_option linter.unusedSimpArgs false
theorem blk_keep {S : Nat → Prop} {h h' : Heap} {p : Nat} {c : List Value} {t : TypeId} (y : Blk h p c t) (g : Chg S h h') (hn : ¬ S p) : Blk h' p c t := by
  unfold Blk at y ⊢
  rw [g.block p (Array.getElem?_eq_some_iff.1 y).1 hn]; exact y
theorem RdAt.keep {S : Nat → Prop} {h h' : Heap} {p : Nat} {l : List UInt8} {st : Cd.St} (R : RdAt h p l st) (g : Chg S h h') (hn : ∀ b, b ≤ p → ¬ S b) : RdAt h' p l st := by
  obtain ⟨s, q, e, a, y, r, hsp, x⟩ := R
  exact ⟨s, q, e, a, blk_keep y g (hn p (Nat.le_refl _)), Vm.Src.keep r g (fun b hb => hn b (Nat.le_of_lt (hsp b hb))), hsp, x⟩
theorem RRd.keep {S : Nat → Prop} {h h' : Heap} {p : Nat} {l : List UInt8} {st : Cd.St} (R : RRd h p l st) (g : Chg S h h') (hn : ∀ b, b ≤ p → ¬ S b) : RRd h' p l st := by
  obtain ⟨s, q, e, w, y, r, hsp, x⟩ := R
  exact ⟨s, q, e, w, blk_keep y g (hn p (Nat.le_refl _)), Vm.Src.keep r g (fun b hb => hn b (Nat.le_of_lt (hsp b hb))), hsp, x⟩
theorem RdAt.lt {h : Heap} {p : Nat} {l : List UInt8} {st : Cd.St} (R : RdAt h p l st) : p < h.size := by
  obtain ⟨s, q, e, a, y, _⟩ := R
  exact y.lt
theorem RRd.lt {h : Heap} {p : Nat} {l : List UInt8} {st : Cd.St} (R : RRd h p l st) : p < h.size := by
  obtain ⟨s, q, e, a, y, _⟩ := R
  exact y.lt
/-- the list so far: what comes of it in the end -/
def LJ (l : List UInt8) (each N : Nat) (L : List (List UInt8) × Cd.St) (xs : List (List UInt8)) (i : Nat) : Cd.St → Prop
  | none => L = ([], none)
  | some a => i ≤ N ∧ N ≤ 1000000 ∧ (match (Cd.texts l each (N - i) (some a)).2 with
    | some p => (xs ++ (Cd.texts l each (N - i) (some a)).1, some p)
    | none => ([], none)) = L
theorem rlist_fn {h : Heap} {p : Nat} {l : List UInt8} {st : Cd.St} (R : RRd h p l st) (hl : l.length ≤ 1000000000) {most each : Nat} (hm : most ≤ 1000000) (he' : each ≤ 1000000000) :
    Fx Tryz.prog 40 #[.pointer (some ⟨p, 0, none⟩), .int .i64 (most : Int), .int .i64 (each : Int)] h fun u h' => OT h' u (Cd.list l most each st).1 ∧ RRd h' p l (Cd.list l most each st).2 ∧ Own1 p h h' ∧ ∀ b, ob u b → h.size ≤ b := by
  have hp := R.lt
  generalize hL : Cd.list l most each st = L
  rw [Cd.list_eq] at hL
  have R0 := R
  obtain ⟨s, q, e, w, y, r, hsp, hst⟩ := R
  refine fn_of 82 Tryz.func40 rfl (by kernel_rfl) rfl (by simp) ?_
  refine cw_seq (cw_go rfl ?_)
  conv => whnf
  refine cw_seq (cw_go rfl ?_)
  conv => whnf
  refine ⟨_, y.rd (o := 1) rfl, ?_⟩
  conv => whnf
  refine cw_seq (cw_seq (cw_go rfl ?_))
  conv => whnf
  refine ⟨_, y.rd (o := 2) rfl, ?_⟩
  conv => whnf
  cases st with
  | none =>
    refine say_f (by show ¬ e = 0; exact hst) ?_
    conv => whnf
    refine cw_false rfl (cw_skip ?_)
    refine cw_seq (cw_go rfl ?_)
    conv => whnf
    refine ⟨_, rfl, _, rruint_none y hst, ?_⟩
    rintro _ _ ⟨rfl, e0⟩
    replace e0 := e0.symm
    subst e0
    conv => whnf
    refine cw_seq (cw_seq (cw_go rfl ?_))
    conv => whnf
    refine ⟨_, y.rd (o := 2) rfl, ?_⟩
    conv => whnf
    refine say_f (by show ¬ e = 0; exact hst) ?_
    conv => whnf
    refine cw_false rfl (cw_skip ?_)
    refine cw_seq (cw_go rfl ?_)
    conv => whnf
    refine cw_seq (cw_seq (cw_go rfl ?_))
    conv => whnf
    refine cw_block ?_
    refine cw_loop (S := Value × List (List UInt8) × Nat × Cd.St) (fun s => [(0, .pointer (some ⟨p, 0, none⟩)), (2, .int .i64 (each : Int)), (7, .int .i64 q), (8, .int .u64 0), (9, s.1), (10, .int .u64 (s.2.2.1 : Int))])
      (fun s h' => (∃ a c, s.1 = .slice a s.2.1.length c) ∧ OT h' s.1 s.2.1 ∧ (∀ b, ob s.1 b → h.size ≤ b) ∧ RRd h' p l s.2.2.2 ∧ Own1 p h h' ∧ s.2.1.length ≤ s.2.2.1 ∧ LJ l each (0 : Nat) L s.2.1 s.2.2.1 s.2.2.2) (fun s => (0 : Nat) - s.2.2.1)
      (.slice none 0 0, [], 0, none) ⟨rfl, rfl, rfl, rfl, rfl, rfl, trivial⟩ ⟨⟨none, 0, rfl⟩, OT.nil _, fun b hb => (ob_nil hb).elim, R0, (ExtH.refl _).chg, Nat.le_refl _, hL.symm⟩ ?_
    rintro ⟨x, xs, i, st⟩ h5 ⟨⟨xa, xc, hx⟩, o5, f5, R5, c5, hlen, J⟩
    simp only at hx o5 f5 R5 hlen J
    subst hx
    have z5 := c5.size
    have R5' := R5
    obtain ⟨s5, q5, e5, w5, y5, r5, hsp5, hst5⟩ := R5
    refine cw_seq (cw_seq (cw_go rfl ?_))
    conv => whnf
    cases st with
    | none =>
      refine say_d (fun hg => ?_) (fun hg => ?_)
      case' refine_1 =>
        conv => whnf
        refine ⟨_, y5.rd (o := 2) rfl, ?_⟩
        conv => whnf
        refine say_f (by show ¬ e5 = 0; exact hst5) ?_
      all_goals
        conv => whnf
        refine cw_false rfl (cw_exit ?_)
        refine cw_seq (cw_seq (cw_go rfl ?_))
        conv => whnf
        refine ⟨_, y5.rd (o := 2) rfl, ?_⟩
        conv => whnf
        refine say_t (by show e5 ≠ 0; exact hst5) ?_
        conv => whnf
        refine cw_true rfl ?_
        refine cw_seq (cw_go rfl ?_)
        conv => whnf
        refine ⟨_, _, y5, by show 1 < 4; decide, ?_⟩
        intro h6 w6
        replace w6 := w6.cast (l' := rrC s5 q e5 w5) (by rfl)
        obtain ⟨y6, r6, c6⟩ := rrd_w y5 r5 hsp5 (ExtH.refl _) w6
        conv => whnf
        refine cw_seq (cw_go rfl ?_)
        conv => whnf
        rw [show L = ([], none) from J]
        exact cw_ret ⟨OT.nil _, ⟨_, _, e5, _, y6, r6, hsp5, hst5⟩, c5.trans c6, fun b hb => (ob_nil hb).elim⟩
    | some a5 =>
      obtain ⟨rfl, ha5, rfl⟩ := hst5
      obtain ⟨j1, j2, J⟩ := J
      refine say_d (fun hg => ?_) (fun hg => ?_)
      · conv => whnf
        refine ⟨_, y5.rd (o := 2) rfl, ?_⟩
        conv => whnf
        refine say_t (by show (0 : Int) = 0; rfl) ?_
        conv => whnf
        refine cw_true rfl (cw_skip ?_)
        have hg : i < (0 : Nat) := by have hg' : (i : Int) < (((0 : Nat) : Nat) : Int) := hg; omega
        obtain ⟨m, hm⟩ : ∃ m, (0 : Nat) - i = m + 1 := ⟨(0 : Nat) - i - 1, by omega⟩
        rw [hm, Cd.texts_succ] at J
        refine cw_seq (cw_block ?_)
        refine cw_seq (cw_go rfl ?_)
        conv => whnf
        refine ⟨_, rfl, _, rtext_fn R5' hl he', ?_⟩
        rintro _ h6 ⟨rfl, R6, c6⟩
        generalize Cd.text l each (some a5) = TX at R6 J ⊢
        obtain ⟨tx, st6⟩ := TX
        simp only at R6 J
        have z6 := c6.size
        have o6 : OT h6 (.slice xa xs.length xc) xs := o5.keep c6 (fun b hb e => by have := f5 b hb; omega)
        have R6' := R6
        obtain ⟨s6, q6, e6, w6, y6, r6, hsp6, hst6⟩ := R6
        conv => whnf
        refine cw_seq (cw_go rfl ?_)
        conv => whnf
        refine ⟨_, y6.rd (o := 2) rfl, ?_⟩
        conv => whnf
        cases st6 with
        | none =>
          refine say_f (by show ¬ e6 = 0; exact hst6) ?_
          conv => whnf
          refine cw_false rfl (cw_skip ?_)
          refine cw_go rfl ?_
          conv => whnf
          refine say_u64 (by omega) ?_
          conv => whnf
          refine ⟨(.slice xa xs.length xc, xs, i + 1, none), ⟨rfl, rfl, rfl, rfl, rfl, by simp only []; rw [show ((i + 1 : Nat) : Int) = (i : Int) + 1 by push_cast; rfl]; rfl, trivial⟩, ⟨⟨_, _, rfl⟩, o6, f5, R6', c5.trans c6, by show xs.length ≤ i + 1; omega, ?_⟩, by show (0 : Nat) - (i + 1) < (0 : Nat) - i; omega⟩
          show L = ([], none)
          rw [Cd.texts_none] at J
          exact J.symm
        | some a6 =>
          refine say_t (by show e6 = 0; exact hst6.2.2) ?_
          conv => whnf
          refine cw_true rfl ?_
          refine cw_go rfl ?_
          conv => whnf
          refine ⟨_, rfl, #[strv tx], 9, fun w => by kernel_rfl, ?_⟩
          conv => whnf
          intro h7 n7
          conv => whnf
          refine ⟨_, rfl, _, append_t (ty := 24) (OT.more o6 n7.ext) (RT.one n7) (by simp only [List.length_cons, List.length_nil]; omega), ?_⟩
          rintro u h8 ⟨o8, c8, f8⟩
          have z7 := n7.size
          have z8 := c8.size
          obtain ⟨ua, uc, hue, _⟩ := Vm.Src.form (OT.r o8)
          subst hue
          conv => whnf
          have R8 : RRd h8 p l (some a6) := (R6'.keep (n7.ext.chg (S := fun _ => False)) (fun _ _ h => h)).keep c8 (fun b hb h => by have := f5 b h; omega)
          have c18 : Own1 p h h8 := ⟨by omega, fun b hb hne => by rw [c8.block b (by omega) (fun h => by have := f5 b h; omega), n7.block b (by omega), c6.block b (by omega) hne, c5.block b hb hne]⟩
          refine cw_go rfl ?_
          conv => whnf
          refine say_u64 (by omega) ?_
          conv => whnf
          refine ⟨(.slice ua (xs ++ [tx]).length uc, xs ++ [tx], i + 1, some a6), ⟨rfl, rfl, rfl, rfl, rfl, by simp only []; rw [show ((i + 1 : Nat) : Int) = (i : Int) + 1 by push_cast; rfl]; rfl, trivial⟩, ⟨⟨_, _, rfl⟩, o8, ?_, R8, c18, ?_, ⟨by show i + 1 ≤ (0 : Nat); omega, j2, ?_⟩⟩, by show (0 : Nat) - (i + 1) < (0 : Nat) - i; omega⟩
          · exact fun b hb => (f8 b hb).elim (f5 b) (fun e => by omega)
          · show (xs ++ [tx]).length ≤ i + 1
            simp only [List.length_append, List.length_cons, List.length_nil]; omega
          · rw [show (0 : Nat) - (i + 1) = m by omega, ← J]
            cases (Cd.texts l each m (some a6)).2 <;> simp
      · conv => whnf
        refine cw_false rfl (cw_exit ?_)
        have hi : i = (0 : Nat) := by have hg' : ¬ (i : Int) < (((0 : Nat) : Nat) : Int) := hg; omega
        have hi0 := hi
        subst hi0
        refine cw_seq (cw_seq (cw_go rfl ?_))
        conv => whnf
        refine ⟨_, y5.rd (o := 2) rfl, ?_⟩
        conv => whnf
        refine say_f (by show ¬ (0 : Int) ≠ 0; decide) ?_
        conv => whnf
        refine cw_false rfl (cw_skip ?_)
        refine cw_seq (cw_go rfl ?_)
        conv => whnf
        have hL' : L = (xs, some a5) := by
          rw [← J, Nat.sub_self]
          simp [Cd.texts]
        rw [hL']
        exact cw_ret ⟨o5, R5', c5, f5⟩
  | some k =>
    obtain ⟨rfl, hk, rfl⟩ := hst
    refine say_t (by show (0 : Int) = 0; rfl) ?_
    conv => whnf
    refine say_f (by omega) ?_
    conv => whnf
    refine say_f (by omega) ?_
    conv => whnf
    refine cw_false rfl (cw_skip ?_)
    have hlt := Cd.num_lt (l.drop k) 0 0 (by decide) (by decide)
    have hkl := Cd.num_k (l.drop k) 0 0
    rw [List.length_drop] at hkl
    have hcnt : Cd.count l most (some k) = if (Cd.numAt l k).2.2 = 0 ∧ (Cd.numAt l k).1 ≤ most then ((Cd.numAt l k).1, some (k + (Cd.numAt l k).2.1)) else (0, none) := rfl
    rw [hcnt] at hL
    change (Cd.numAt l k).1 < _ at hlt
    change (Cd.numAt l k).2.2 = 0 → _ ≤ (Cd.numAt l k).2.1 ∧ (Cd.numAt l k).2.1 ≤ _ at hkl
    refine cw_seq (cw_go rfl ?_)
    conv => whnf
    refine ⟨_, rfl, _, rruint_some y r hl hk, ?_⟩
    rintro u h2 hu
    generalize Cd.numAt l k = res at *
    obtain ⟨n, kk, er⟩ := res
    simp only [] at hlt hkl hu hL
    rcases hu with ⟨rfl, rfl, g, xg, W⟩ | ⟨hne, rfl, g, xg, W⟩
    · have hkl := hkl rfl
      obtain ⟨y2, r2, c2⟩ := rrd_w y r hsp xg W
      conv => whnf
      refine cw_seq (cw_seq (cw_go rfl ?_))
      conv => whnf
      refine ⟨_, y2.rd (o := 2) rfl, ?_⟩
      conv => whnf
      refine say_t (by show (0 : Int) = 0; rfl) ?_
      conv => whnf
      refine say_u64 (by omega) ?_
      conv => whnf
      by_cases hA : n ≤ most
      · rw [if_pos ⟨rfl, hA⟩] at hL
        refine say_f (by omega) ?_
        conv => whnf
        refine cw_false rfl (cw_skip ?_)
        have R2 : RRd h2 p l (some (k + kk)) := ⟨s, _, 0, w, y2, r2, hsp, rfl, by omega, rfl⟩
        refine cw_seq (cw_go rfl ?_)
        conv => whnf
        refine cw_seq (cw_seq (cw_go rfl ?_))
        conv => whnf
        refine cw_block ?_
        refine cw_loop (S := Value × List (List UInt8) × Nat × Cd.St) (fun s => [(0, .pointer (some ⟨p, 0, none⟩)), (2, .int .i64 (each : Int)), (7, .int .i64 (k : Int)), (8, .int .u64 (n : Int)), (9, s.1), (10, .int .u64 (s.2.2.1 : Int))])
          (fun s h' => (∃ a c, s.1 = .slice a s.2.1.length c) ∧ OT h' s.1 s.2.1 ∧ (∀ b, ob s.1 b → h.size ≤ b) ∧ RRd h' p l s.2.2.2 ∧ Own1 p h h' ∧ s.2.1.length ≤ s.2.2.1 ∧ LJ l each n L s.2.1 s.2.2.1 s.2.2.2) (fun s => n - s.2.2.1)
          (.slice none 0 0, [], 0, (some (k + kk))) ⟨rfl, rfl, rfl, rfl, rfl, rfl, trivial⟩ ⟨⟨none, 0, rfl⟩, OT.nil _, fun b hb => (ob_nil hb).elim, R2, c2, Nat.le_refl _, ⟨Nat.zero_le _, by omega, by simp only [Nat.sub_zero]; exact hL⟩⟩ ?_
        rintro ⟨x, xs, i, st⟩ h5 ⟨⟨xa, xc, hx⟩, o5, f5, R5, c5, hlen, J⟩
        simp only at hx o5 f5 R5 hlen J
        subst hx
        have z5 := c5.size
        have R5' := R5
        obtain ⟨s5, q5, e5, w5, y5, r5, hsp5, hst5⟩ := R5
        refine cw_seq (cw_seq (cw_go rfl ?_))
        conv => whnf
        cases st with
        | none =>
          refine say_d (fun hg => ?_) (fun hg => ?_)
          case' refine_1 =>
            conv => whnf
            refine ⟨_, y5.rd (o := 2) rfl, ?_⟩
            conv => whnf
            refine say_f (by show ¬ e5 = 0; exact hst5) ?_
          all_goals
            conv => whnf
            refine cw_false rfl (cw_exit ?_)
            refine cw_seq (cw_seq (cw_go rfl ?_))
            conv => whnf
            refine ⟨_, y5.rd (o := 2) rfl, ?_⟩
            conv => whnf
            refine say_t (by show e5 ≠ 0; exact hst5) ?_
            conv => whnf
            refine cw_true rfl ?_
            refine cw_seq (cw_go rfl ?_)
            conv => whnf
            refine ⟨_, _, y5, by show 1 < 4; decide, ?_⟩
            intro h6 w6
            replace w6 := w6.cast (l' := rrC s5 (k : Int) e5 w5) (by rfl)
            obtain ⟨y6, r6, c6⟩ := rrd_w y5 r5 hsp5 (ExtH.refl _) w6
            conv => whnf
            refine cw_seq (cw_go rfl ?_)
            conv => whnf
            rw [show L = ([], none) from J]
            exact cw_ret ⟨OT.nil _, ⟨_, _, e5, _, y6, r6, hsp5, hst5⟩, c5.trans c6, fun b hb => (ob_nil hb).elim⟩
        | some a5 =>
          obtain ⟨rfl, ha5, rfl⟩ := hst5
          obtain ⟨j1, j2, J⟩ := J
          refine say_d (fun hg => ?_) (fun hg => ?_)
          · conv => whnf
            refine ⟨_, y5.rd (o := 2) rfl, ?_⟩
            conv => whnf
            refine say_t (by show (0 : Int) = 0; rfl) ?_
            conv => whnf
            refine cw_true rfl (cw_skip ?_)
            have hg : i < n := by have hg' : (i : Int) < ((n : Nat) : Int) := hg; omega
            obtain ⟨m, hm⟩ : ∃ m, n - i = m + 1 := ⟨n - i - 1, by omega⟩
            rw [hm, Cd.texts_succ] at J
            refine cw_seq (cw_block ?_)
            refine cw_seq (cw_go rfl ?_)
            conv => whnf
            refine ⟨_, rfl, _, rtext_fn R5' hl he', ?_⟩
            rintro _ h6 ⟨rfl, R6, c6⟩
            generalize Cd.text l each (some a5) = TX at R6 J ⊢
            obtain ⟨tx, st6⟩ := TX
            simp only at R6 J
            have z6 := c6.size
            have o6 : OT h6 (.slice xa xs.length xc) xs := o5.keep c6 (fun b hb e => by have := f5 b hb; omega)
            have R6' := R6
            obtain ⟨s6, q6, e6, w6, y6, r6, hsp6, hst6⟩ := R6
            conv => whnf
            refine cw_seq (cw_go rfl ?_)
            conv => whnf
            refine ⟨_, y6.rd (o := 2) rfl, ?_⟩
            conv => whnf
            cases st6 with
            | none =>
              refine say_f (by show ¬ e6 = 0; exact hst6) ?_
              conv => whnf
              refine cw_false rfl (cw_skip ?_)
              refine cw_go rfl ?_
              conv => whnf
              refine say_u64 (by omega) ?_
              conv => whnf
              refine ⟨(.slice xa xs.length xc, xs, i + 1, none), ⟨rfl, rfl, rfl, rfl, rfl, by simp only []; rw [show ((i + 1 : Nat) : Int) = (i : Int) + 1 by push_cast; rfl]; rfl, trivial⟩, ⟨⟨_, _, rfl⟩, o6, f5, R6', c5.trans c6, by show xs.length ≤ i + 1; omega, ?_⟩, by show n - (i + 1) < n - i; omega⟩
              show L = ([], none)
              rw [Cd.texts_none] at J
              exact J.symm
            | some a6 =>
              refine say_t (by show e6 = 0; exact hst6.2.2) ?_
              conv => whnf
              refine cw_true rfl ?_
              refine cw_go rfl ?_
              conv => whnf
              refine ⟨_, rfl, #[strv tx], 9, fun w => by kernel_rfl, ?_⟩
              conv => whnf
              intro h7 n7
              conv => whnf
              refine ⟨_, rfl, _, append_t (ty := 24) (OT.more o6 n7.ext) (RT.one n7) (by simp only [List.length_cons, List.length_nil]; omega), ?_⟩
              rintro u h8 ⟨o8, c8, f8⟩
              have z7 := n7.size
              have z8 := c8.size
              obtain ⟨ua, uc, hue, _⟩ := Vm.Src.form (OT.r o8)
              subst hue
              conv => whnf
              have R8 : RRd h8 p l (some a6) := (R6'.keep (n7.ext.chg (S := fun _ => False)) (fun _ _ h => h)).keep c8 (fun b hb h => by have := f5 b h; omega)
              have c18 : Own1 p h h8 := ⟨by omega, fun b hb hne => by rw [c8.block b (by omega) (fun h => by have := f5 b h; omega), n7.block b (by omega), c6.block b (by omega) hne, c5.block b hb hne]⟩
              refine cw_go rfl ?_
              conv => whnf
              refine say_u64 (by omega) ?_
              conv => whnf
              refine ⟨(.slice ua (xs ++ [tx]).length uc, xs ++ [tx], i + 1, some a6), ⟨rfl, rfl, rfl, rfl, rfl, by simp only []; rw [show ((i + 1 : Nat) : Int) = (i : Int) + 1 by push_cast; rfl]; rfl, trivial⟩, ⟨⟨_, _, rfl⟩, o8, ?_, R8, c18, ?_, ⟨by show i + 1 ≤ n; omega, j2, ?_⟩⟩, by show n - (i + 1) < n - i; omega⟩
              · exact fun b hb => (f8 b hb).elim (f5 b) (fun e => by omega)
              · show (xs ++ [tx]).length ≤ i + 1
                simp only [List.length_append, List.length_cons, List.length_nil]; omega
              · rw [show n - (i + 1) = m by omega, ← J]
                cases (Cd.texts l each m (some a6)).2 <;> simp
          · conv => whnf
            refine cw_false rfl (cw_exit ?_)
            have hi : i = n := by have hg' : ¬ (i : Int) < ((n : Nat) : Int) := hg; omega
            subst hi
            refine cw_seq (cw_seq (cw_go rfl ?_))
            conv => whnf
            refine ⟨_, y5.rd (o := 2) rfl, ?_⟩
            conv => whnf
            refine say_f (by show ¬ (0 : Int) ≠ 0; decide) ?_
            conv => whnf
            refine cw_false rfl (cw_skip ?_)
            refine cw_seq (cw_go rfl ?_)
            conv => whnf
            have hL' : L = (xs, some a5) := by
              rw [← J, Nat.sub_self]
              simp [Cd.texts]
            rw [hL']
            exact cw_ret ⟨o5, R5', c5, f5⟩
      · rw [if_neg (fun h => hA h.2)] at hL
        refine say_t (by omega) ?_
        conv => whnf
        refine cw_true rfl ?_
        refine cw_go rfl ?_
        conv => whnf
        refine ⟨_, rfl, _, rfail_fn y2, ?_⟩
        rintro _ h4 w4
        obtain ⟨y4, r4, c4⟩ := rrd_w y2 r2 hsp (ExtH.refl _) w4
        conv => whnf
        refine cw_seq (cw_go rfl ?_)
        conv => whnf
        refine cw_seq (cw_seq (cw_go rfl ?_))
        conv => whnf
        refine cw_block ?_
        refine cw_loop (S := Value × List (List UInt8) × Nat × Cd.St) (fun s => [(0, .pointer (some ⟨p, 0, none⟩)), (2, .int .i64 (each : Int)), (7, .int .i64 (k : Int)), (8, .int .u64 (n : Int)), (9, s.1), (10, .int .u64 (s.2.2.1 : Int))])
          (fun s h' => (∃ a c, s.1 = .slice a s.2.1.length c) ∧ OT h' s.1 s.2.1 ∧ (∀ b, ob s.1 b → h.size ≤ b) ∧ RRd h' p l s.2.2.2 ∧ Own1 p h h' ∧ s.2.1.length ≤ s.2.2.1 ∧ LJ l each n L s.2.1 s.2.2.1 s.2.2.2) (fun s => n - s.2.2.1)
          (.slice none 0 0, [], 0, none) ⟨rfl, rfl, rfl, rfl, rfl, rfl, trivial⟩ ⟨⟨none, 0, rfl⟩, OT.nil _, fun b hb => (ob_nil hb).elim, (⟨s, _, 11, _, y4, r4, hsp, by show (11 : Int) ≠ 0; decide⟩ : RRd h4 p l none), (c2.trans c4), Nat.le_refl _, hL.symm⟩ ?_
        rintro ⟨x, xs, i, st⟩ h5 ⟨⟨xa, xc, hx⟩, o5, f5, R5, c5, hlen, J⟩
        simp only at hx o5 f5 R5 hlen J
        subst hx
        have z5 := c5.size
        have R5' := R5
        obtain ⟨s5, q5, e5, w5, y5, r5, hsp5, hst5⟩ := R5
        refine cw_seq (cw_seq (cw_go rfl ?_))
        conv => whnf
        cases st with
        | none =>
          refine say_d (fun hg => ?_) (fun hg => ?_)
          case' refine_1 =>
            conv => whnf
            refine ⟨_, y5.rd (o := 2) rfl, ?_⟩
            conv => whnf
            refine say_f (by show ¬ e5 = 0; exact hst5) ?_
          all_goals
            conv => whnf
            refine cw_false rfl (cw_exit ?_)
            refine cw_seq (cw_seq (cw_go rfl ?_))
            conv => whnf
            refine ⟨_, y5.rd (o := 2) rfl, ?_⟩
            conv => whnf
            refine say_t (by show e5 ≠ 0; exact hst5) ?_
            conv => whnf
            refine cw_true rfl ?_
            refine cw_seq (cw_go rfl ?_)
            conv => whnf
            refine ⟨_, _, y5, by show 1 < 4; decide, ?_⟩
            intro h6 w6
            replace w6 := w6.cast (l' := rrC s5 (k : Int) e5 w5) (by rfl)
            obtain ⟨y6, r6, c6⟩ := rrd_w y5 r5 hsp5 (ExtH.refl _) w6
            conv => whnf
            refine cw_seq (cw_go rfl ?_)
            conv => whnf
            rw [show L = ([], none) from J]
            exact cw_ret ⟨OT.nil _, ⟨_, _, e5, _, y6, r6, hsp5, hst5⟩, c5.trans c6, fun b hb => (ob_nil hb).elim⟩
        | some a5 =>
          obtain ⟨rfl, ha5, rfl⟩ := hst5
          obtain ⟨j1, j2, J⟩ := J
          refine say_d (fun hg => ?_) (fun hg => ?_)
          · conv => whnf
            refine ⟨_, y5.rd (o := 2) rfl, ?_⟩
            conv => whnf
            refine say_t (by show (0 : Int) = 0; rfl) ?_
            conv => whnf
            refine cw_true rfl (cw_skip ?_)
            have hg : i < n := by have hg' : (i : Int) < ((n : Nat) : Int) := hg; omega
            obtain ⟨m, hm⟩ : ∃ m, n - i = m + 1 := ⟨n - i - 1, by omega⟩
            rw [hm, Cd.texts_succ] at J
            refine cw_seq (cw_block ?_)
            refine cw_seq (cw_go rfl ?_)
            conv => whnf
            refine ⟨_, rfl, _, rtext_fn R5' hl he', ?_⟩
            rintro _ h6 ⟨rfl, R6, c6⟩
            generalize Cd.text l each (some a5) = TX at R6 J ⊢
            obtain ⟨tx, st6⟩ := TX
            simp only at R6 J
            have z6 := c6.size
            have o6 : OT h6 (.slice xa xs.length xc) xs := o5.keep c6 (fun b hb e => by have := f5 b hb; omega)
            have R6' := R6
            obtain ⟨s6, q6, e6, w6, y6, r6, hsp6, hst6⟩ := R6
            conv => whnf
            refine cw_seq (cw_go rfl ?_)
            conv => whnf
            refine ⟨_, y6.rd (o := 2) rfl, ?_⟩
            conv => whnf
            cases st6 with
            | none =>
              refine say_f (by show ¬ e6 = 0; exact hst6) ?_
              conv => whnf
              refine cw_false rfl (cw_skip ?_)
              refine cw_go rfl ?_
              conv => whnf
              refine say_u64 (by omega) ?_
              conv => whnf
              refine ⟨(.slice xa xs.length xc, xs, i + 1, none), ⟨rfl, rfl, rfl, rfl, rfl, by simp only []; rw [show ((i + 1 : Nat) : Int) = (i : Int) + 1 by push_cast; rfl]; rfl, trivial⟩, ⟨⟨_, _, rfl⟩, o6, f5, R6', c5.trans c6, by show xs.length ≤ i + 1; omega, ?_⟩, by show n - (i + 1) < n - i; omega⟩
              show L = ([], none)
              rw [Cd.texts_none] at J
              exact J.symm
            | some a6 =>
              refine say_t (by show e6 = 0; exact hst6.2.2) ?_
              conv => whnf
              refine cw_true rfl ?_
              refine cw_go rfl ?_
              conv => whnf
              refine ⟨_, rfl, #[strv tx], 9, fun w => by kernel_rfl, ?_⟩
              conv => whnf
              intro h7 n7
              conv => whnf
              refine ⟨_, rfl, _, append_t (ty := 24) (OT.more o6 n7.ext) (RT.one n7) (by simp only [List.length_cons, List.length_nil]; omega), ?_⟩
              rintro u h8 ⟨o8, c8, f8⟩
              have z7 := n7.size
              have z8 := c8.size
              obtain ⟨ua, uc, hue, _⟩ := Vm.Src.form (OT.r o8)
              subst hue
              conv => whnf
              have R8 : RRd h8 p l (some a6) := (R6'.keep (n7.ext.chg (S := fun _ => False)) (fun _ _ h => h)).keep c8 (fun b hb h => by have := f5 b h; omega)
              have c18 : Own1 p h h8 := ⟨by omega, fun b hb hne => by rw [c8.block b (by omega) (fun h => by have := f5 b h; omega), n7.block b (by omega), c6.block b (by omega) hne, c5.block b hb hne]⟩
              refine cw_go rfl ?_
              conv => whnf
              refine say_u64 (by omega) ?_
              conv => whnf
              refine ⟨(.slice ua (xs ++ [tx]).length uc, xs ++ [tx], i + 1, some a6), ⟨rfl, rfl, rfl, rfl, rfl, by simp only []; rw [show ((i + 1 : Nat) : Int) = (i : Int) + 1 by push_cast; rfl]; rfl, trivial⟩, ⟨⟨_, _, rfl⟩, o8, ?_, R8, c18, ?_, ⟨by show i + 1 ≤ n; omega, j2, ?_⟩⟩, by show n - (i + 1) < n - i; omega⟩
              · exact fun b hb => (f8 b hb).elim (f5 b) (fun e => by omega)
              · show (xs ++ [tx]).length ≤ i + 1
                simp only [List.length_append, List.length_cons, List.length_nil]; omega
              · rw [show n - (i + 1) = m by omega, ← J]
                cases (Cd.texts l each m (some a6)).2 <;> simp
          · conv => whnf
            refine cw_false rfl (cw_exit ?_)
            have hi : i = n := by have hg' : ¬ (i : Int) < ((n : Nat) : Int) := hg; omega
            subst hi
            refine cw_seq (cw_seq (cw_go rfl ?_))
            conv => whnf
            refine ⟨_, y5.rd (o := 2) rfl, ?_⟩
            conv => whnf
            refine say_f (by show ¬ (0 : Int) ≠ 0; decide) ?_
            conv => whnf
            refine cw_false rfl (cw_skip ?_)
            refine cw_seq (cw_go rfl ?_)
            conv => whnf
            have hL' : L = (xs, some a5) := by
              rw [← J, Nat.sub_self]
              simp [Cd.texts]
            rw [hL']
            exact cw_ret ⟨o5, R5', c5, f5⟩
    · rw [if_neg (fun h => hne h.1)] at hL
      obtain ⟨y2, r2, c2⟩ := rrd_w y r hsp xg W
      conv => whnf
      refine cw_seq (cw_seq (cw_go rfl ?_))
      conv => whnf
      refine ⟨_, y2.rd (o := 2) rfl, ?_⟩
      conv => whnf
      refine say_f (by omega) ?_
      conv => whnf
      refine cw_false rfl (cw_skip ?_)
      refine cw_seq (cw_go rfl ?_)
      conv => whnf
      refine cw_seq (cw_seq (cw_go rfl ?_))
      conv => whnf
      refine cw_block ?_
      refine cw_loop (S := Value × List (List UInt8) × Nat × Cd.St) (fun s => [(0, .pointer (some ⟨p, 0, none⟩)), (2, .int .i64 (each : Int)), (7, .int .i64 (k : Int)), (8, .int .u64 0), (9, s.1), (10, .int .u64 (s.2.2.1 : Int))])
        (fun s h' => (∃ a c, s.1 = .slice a s.2.1.length c) ∧ OT h' s.1 s.2.1 ∧ (∀ b, ob s.1 b → h.size ≤ b) ∧ RRd h' p l s.2.2.2 ∧ Own1 p h h' ∧ s.2.1.length ≤ s.2.2.1 ∧ LJ l each (0 : Nat) L s.2.1 s.2.2.1 s.2.2.2) (fun s => (0 : Nat) - s.2.2.1)
        (.slice none 0 0, [], 0, none) ⟨rfl, rfl, rfl, rfl, rfl, rfl, trivial⟩ ⟨⟨none, 0, rfl⟩, OT.nil _, fun b hb => (ob_nil hb).elim, (⟨s, _, _, _, y2, r2, hsp, by show (er : Int) ≠ 0; omega⟩ : RRd h2 p l none), c2, Nat.le_refl _, hL.symm⟩ ?_
      rintro ⟨x, xs, i, st⟩ h5 ⟨⟨xa, xc, hx⟩, o5, f5, R5, c5, hlen, J⟩
      simp only at hx o5 f5 R5 hlen J
      subst hx
      have z5 := c5.size
      have R5' := R5
      obtain ⟨s5, q5, e5, w5, y5, r5, hsp5, hst5⟩ := R5
      refine cw_seq (cw_seq (cw_go rfl ?_))
      conv => whnf
      cases st with
      | none =>
        refine say_d (fun hg => ?_) (fun hg => ?_)
        case' refine_1 =>
          conv => whnf
          refine ⟨_, y5.rd (o := 2) rfl, ?_⟩
          conv => whnf
          refine say_f (by show ¬ e5 = 0; exact hst5) ?_
        all_goals
          conv => whnf
          refine cw_false rfl (cw_exit ?_)
          refine cw_seq (cw_seq (cw_go rfl ?_))
          conv => whnf
          refine ⟨_, y5.rd (o := 2) rfl, ?_⟩
          conv => whnf
          refine say_t (by show e5 ≠ 0; exact hst5) ?_
          conv => whnf
          refine cw_true rfl ?_
          refine cw_seq (cw_go rfl ?_)
          conv => whnf
          refine ⟨_, _, y5, by show 1 < 4; decide, ?_⟩
          intro h6 w6
          replace w6 := w6.cast (l' := rrC s5 (k : Int) e5 w5) (by rfl)
          obtain ⟨y6, r6, c6⟩ := rrd_w y5 r5 hsp5 (ExtH.refl _) w6
          conv => whnf
          refine cw_seq (cw_go rfl ?_)
          conv => whnf
          rw [show L = ([], none) from J]
          exact cw_ret ⟨OT.nil _, ⟨_, _, e5, _, y6, r6, hsp5, hst5⟩, c5.trans c6, fun b hb => (ob_nil hb).elim⟩
      | some a5 =>
        obtain ⟨rfl, ha5, rfl⟩ := hst5
        obtain ⟨j1, j2, J⟩ := J
        refine say_d (fun hg => ?_) (fun hg => ?_)
        · conv => whnf
          refine ⟨_, y5.rd (o := 2) rfl, ?_⟩
          conv => whnf
          refine say_t (by show (0 : Int) = 0; rfl) ?_
          conv => whnf
          refine cw_true rfl (cw_skip ?_)
          have hg : i < (0 : Nat) := by have hg' : (i : Int) < (((0 : Nat) : Nat) : Int) := hg; omega
          obtain ⟨m, hm⟩ : ∃ m, (0 : Nat) - i = m + 1 := ⟨(0 : Nat) - i - 1, by omega⟩
          rw [hm, Cd.texts_succ] at J
          refine cw_seq (cw_block ?_)
          refine cw_seq (cw_go rfl ?_)
          conv => whnf
          refine ⟨_, rfl, _, rtext_fn R5' hl he', ?_⟩
          rintro _ h6 ⟨rfl, R6, c6⟩
          generalize Cd.text l each (some a5) = TX at R6 J ⊢
          obtain ⟨tx, st6⟩ := TX
          simp only at R6 J
          have z6 := c6.size
          have o6 : OT h6 (.slice xa xs.length xc) xs := o5.keep c6 (fun b hb e => by have := f5 b hb; omega)
          have R6' := R6
          obtain ⟨s6, q6, e6, w6, y6, r6, hsp6, hst6⟩ := R6
          conv => whnf
          refine cw_seq (cw_go rfl ?_)
          conv => whnf
          refine ⟨_, y6.rd (o := 2) rfl, ?_⟩
          conv => whnf
          cases st6 with
          | none =>
            refine say_f (by show ¬ e6 = 0; exact hst6) ?_
            conv => whnf
            refine cw_false rfl (cw_skip ?_)
            refine cw_go rfl ?_
            conv => whnf
            refine say_u64 (by omega) ?_
            conv => whnf
            refine ⟨(.slice xa xs.length xc, xs, i + 1, none), ⟨rfl, rfl, rfl, rfl, rfl, by simp only []; rw [show ((i + 1 : Nat) : Int) = (i : Int) + 1 by push_cast; rfl]; rfl, trivial⟩, ⟨⟨_, _, rfl⟩, o6, f5, R6', c5.trans c6, by show xs.length ≤ i + 1; omega, ?_⟩, by show (0 : Nat) - (i + 1) < (0 : Nat) - i; omega⟩
            show L = ([], none)
            rw [Cd.texts_none] at J
            exact J.symm
          | some a6 =>
            refine say_t (by show e6 = 0; exact hst6.2.2) ?_
            conv => whnf
            refine cw_true rfl ?_
            refine cw_go rfl ?_
            conv => whnf
            refine ⟨_, rfl, #[strv tx], 9, fun w => by kernel_rfl, ?_⟩
            conv => whnf
            intro h7 n7
            conv => whnf
            refine ⟨_, rfl, _, append_t (ty := 24) (OT.more o6 n7.ext) (RT.one n7) (by simp only [List.length_cons, List.length_nil]; omega), ?_⟩
            rintro u h8 ⟨o8, c8, f8⟩
            have z7 := n7.size
            have z8 := c8.size
            obtain ⟨ua, uc, hue, _⟩ := Vm.Src.form (OT.r o8)
            subst hue
            conv => whnf
            have R8 : RRd h8 p l (some a6) := (R6'.keep (n7.ext.chg (S := fun _ => False)) (fun _ _ h => h)).keep c8 (fun b hb h => by have := f5 b h; omega)
            have c18 : Own1 p h h8 := ⟨by omega, fun b hb hne => by rw [c8.block b (by omega) (fun h => by have := f5 b h; omega), n7.block b (by omega), c6.block b (by omega) hne, c5.block b hb hne]⟩
            refine cw_go rfl ?_
            conv => whnf
            refine say_u64 (by omega) ?_
            conv => whnf
            refine ⟨(.slice ua (xs ++ [tx]).length uc, xs ++ [tx], i + 1, some a6), ⟨rfl, rfl, rfl, rfl, rfl, by simp only []; rw [show ((i + 1 : Nat) : Int) = (i : Int) + 1 by push_cast; rfl]; rfl, trivial⟩, ⟨⟨_, _, rfl⟩, o8, ?_, R8, c18, ?_, ⟨by show i + 1 ≤ (0 : Nat); omega, j2, ?_⟩⟩, by show (0 : Nat) - (i + 1) < (0 : Nat) - i; omega⟩
            · exact fun b hb => (f8 b hb).elim (f5 b) (fun e => by omega)
            · show (xs ++ [tx]).length ≤ i + 1
              simp only [List.length_append, List.length_cons, List.length_nil]; omega
            · rw [show (0 : Nat) - (i + 1) = m by omega, ← J]
              cases (Cd.texts l each m (some a6)).2 <;> simp
        · conv => whnf
          refine cw_false rfl (cw_exit ?_)
          have hi : i = (0 : Nat) := by have hg' : ¬ (i : Int) < (((0 : Nat) : Nat) : Int) := hg; omega
          have hi0 := hi
          subst hi0
          refine cw_seq (cw_seq (cw_go rfl ?_))
          conv => whnf
          refine ⟨_, y5.rd (o := 2) rfl, ?_⟩
          conv => whnf
          refine say_f (by show ¬ (0 : Int) ≠ 0; decide) ?_
          conv => whnf
          refine cw_false rfl (cw_skip ?_)
          refine cw_seq (cw_go rfl ?_)
          conv => whnf
          have hL' : L = (xs, some a5) := by
            rw [← J, Nat.sub_self]
            simp [Cd.texts]
          rw [hL']
          exact cw_ret ⟨o5, R5', c5, f5⟩
end Go.Proofs.YtkdmpdbbcgdfkaaGreatDoor
namespace Go.Proofs.YtkdmpdbbcgdfkaaGreatDoor
open Go Vm
set_option maxRecDepth 100000
set_option linter.unusedVariables false
set_option linter.unusedSimpArgs false
theorem rend_fn {h : Heap} {p : Nat} {l : List UInt8} {st : Cd.St} (R : RRd h p l st) (hl : l.length ≤ 1000000000) :
    Fx Tryz.prog 41 #[.pointer (some ⟨p, 0, none⟩)] h fun u h' => ∃ e w : Int, u = .tuple #[.int .i64 e, .int .i64 w] ∧ (e = 0 ↔ st = some l.length) ∧ Own1 p h h' := by
  obtain ⟨s, q, e, w, y, r, hsp, hst⟩ := R
  obtain ⟨sa, sc, hse, _, hsc⟩ := Vm.Src.form r
  subst hse
  refine fn_of 35 Tryz.func41 rfl (by kernel_rfl) rfl (by simp) ?_
  refine cw_seq (cw_go rfl ?_)
  conv => whnf
  refine cw_seq ?_
  refine cw_seq (cw_dgo (by kernel_rfl) 15 (List.range 15) (by kernel_rfl) rfl ?_)
  conv => whnf
  refine ⟨_, y.rd (o := 2) rfl, ?_⟩
  conv => whnf
  cases st with
  | none =>
    refine say_f (by show ¬ e = 0; exact hst) ?_
    conv => whnf
    intro h1 x1
    have y1 := x1.blk y
    have z1 := x1.size
    conv => whnf
    refine cw_false rfl (cw_skip ?_)
    refine cw_seq (cw_dgo (by kernel_rfl) 9 (List.range 9) (by kernel_rfl) rfl ?_)
    conv => whnf
    refine ⟨_, y1.rd (o := 2) rfl, ?_⟩
    conv => whnf
    refine ⟨_, y1.rd (o := 3) rfl, ?_⟩
    conv => whnf
    intro h2 x2
    have z2 := x2.size
    conv => whnf
    exact cw_ret ⟨e, w, rfl, ⟨fun h => (hst h).elim, fun h => by cases h⟩, ⟨by omega, fun b hb _ => by rw [x2.block b (by omega), x1.block b hb]⟩⟩
  | some k =>
    obtain ⟨rfl, hk, rfl⟩ := hst
    refine say_t (by show (0 : Int) = 0; rfl) ?_
    conv => whnf
    refine ⟨_, y.rd (o := 1) rfl, ?_⟩
    conv => whnf
    refine ⟨_, y.rd (o := 0) rfl, ?_⟩
    conv => whnf
    intro h1 x1
    have y1 := x1.blk y
    have z1 := x1.size
    conv => whnf
    refine say_d (fun hg => ?_) (fun hg => ?_)
    · conv => whnf
      refine cw_true rfl ?_
      refine cw_go rfl ?_
      conv => whnf
      refine ⟨_, y1.rd (o := 1) rfl, ?_⟩
      conv => whnf
      refine ⟨_, rfl, _, rfail_fn y1, ?_⟩
      rintro _ h2 w2
      have y2 := w2.new
      have z2 := w2.size
      conv => whnf
      refine cw_seq (cw_dgo (by kernel_rfl) 9 (List.range 9) (by kernel_rfl) rfl ?_)
      conv => whnf
      refine ⟨_, y2.rd (o := 2) rfl, ?_⟩
      conv => whnf
      refine ⟨_, y2.rd (o := 3) rfl, ?_⟩
      conv => whnf
      intro h3 x3
      have z3 := x3.size
      conv => whnf
      exact cw_ret ⟨6, (k : Int), rfl, ⟨fun h => by omega, fun h => by injection h with h; omega⟩, ⟨by omega, fun b hb hne => by rw [x3.block b (by omega), w2.block b hne, x1.block b hb]⟩⟩
    · conv => whnf
      refine cw_false rfl (cw_skip ?_)
      refine cw_seq (cw_dgo (by kernel_rfl) 9 (List.range 9) (by kernel_rfl) rfl ?_)
      conv => whnf
      refine ⟨_, y1.rd (o := 2) rfl, ?_⟩
      conv => whnf
      refine ⟨_, y1.rd (o := 3) rfl, ?_⟩
      conv => whnf
      intro h2 x2
      have z2 := x2.size
      conv => whnf
      exact cw_ret ⟨0, w, rfl, ⟨fun _ => by congr 1; omega, fun _ => rfl⟩, ⟨by omega, fun b hb _ => by rw [x2.block b (by omega), x1.block b hb]⟩⟩
theorem rnew_fn {h : Heap} {v : Value} {l : List UInt8} (r : RB h v l) (hl : l.length ≤ 1000000000) :
    Fx Tryz.prog 36 #[v] h fun u h' => ∃ s, u = .agg (rrC s 0 0 0).toArray ∧ OB h' s l ∧ (∀ b, ob s b → h.size ≤ b) ∧ ExtH h h' := by
  obtain ⟨sa, sc, hse, _⟩ := Vm.Src.form r
  subst hse
  refine fn_of 6 Tryz.func36 rfl (by kernel_rfl) rfl (by simp) ?_
  refine cw_seq (cw_go rfl ?_)
  conv => whnf
  intro h1 n1
  conv => whnf
  have y1 : Blk h1 h.size (rrC (.slice none 0 0) 0 0 0) 78 := n1.blk
  have z1 := n1.size
  refine cw_seq (cw_go rfl ?_)
  conv => whnf
  refine ⟨_, rfl, _, append_bytes (ty := 46) (OB.nil h1) (Vm.Src.more r n1.ext) (by simp; omega), ?_⟩
  rintro u h2 ⟨o2, c2, f2⟩
  have x2 : ExtH h1 h2 := ext_of_chg (ExtH.refl _) c2 (fun b hb => (ob_nil hb).elim)
  rw [List.nil_append] at o2
  obtain ⟨ua, uc, hue, _⟩ := Vm.Src.form (OB.r o2)
  subst hue
  conv => whnf
  refine ⟨_, rfl, (rrC (.slice ua l.length uc) 0 0 0).toArray, fun w => by kernel_rfl, ?_⟩
  conv => whnf
  conv => whnf
  refine ⟨_, _, x2.blk y1, ⟨by show 4 ≤ 4; decide, rfl, by simp [rrC, Value.oneCell']⟩, ?_⟩
  intro h3 w3
  have y3 : Blk h3 h.size (rrC (.slice ua l.length uc) 0 0 0) 78 := w3.new
  have z2 := x2.size
  have z3 := w3.size
  have hb1 : ∀ b, ob (.slice ua l.length uc) b → h1.size ≤ b := fun b hb => (f2 b hb).elim (fun e => (ob_nil e).elim) id
  refine cw_ret ?_
  refine ⟨rrC (.slice ua l.length uc) 0 0 0, rfl, y3.rdN 0 _ rfl, ?_⟩
  exact ⟨_, rfl, OwnS.keep o2 (own1_w w3) (fun b hb e => by have := hb1 b hb; omega), fun b hb => by have := hb1 b hb; omega, ⟨by omega, fun b hb => by rw [w3.block b (by omega), x2.block b (by omega), n1.block b hb]⟩⟩
end Go.Proofs.YtkdmpdbbcgdfkaaGreatDoor
