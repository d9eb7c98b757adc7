/-
  The document's reader.
  The document's reader: Raw, Text.
  The document's reader: Text.
-/
import Derived.Test.YtkdmpdbbcgdfkaaGreatDoorJ11
namespace Go.Proofs.YtkdmpdbbcgdfkaaGreatDoor
open Go Vm
set_option maxRecDepth 100000
set_option linter.unusedVariables false
set_option linter.unusedSimpArgs false
/-- the reader's cells -/
def rrC (s : Value) (q e w : Int) : List Value := [s, .int .i64 q, .int .i64 e, .int .i64 w]
/-- the document's reader at p, of the bytes l -/
def RRd (h : Heap) (p : Nat) (l : List UInt8) (st : Cd.St) : Prop :=
  ∃ (s : Value) (q e w : Int), Blk h p (rrC s q e w) 78 ∧ RB h s l ∧ (∀ b, ob s b → b < p) ∧
    match st with
    | some k => q = (k : Int) ∧ k ≤ l.length ∧ e = 0
    | none => e ≠ 0
theorem rfail_fn {h : Heap} {p : Nat} {s : Value} {q e w x z : Int} (y : Blk h p (rrC s q e w) 78) :
    Fx Tryz.prog 68 #[.pointer (some ⟨p, 0, none⟩), .int .i64 x, .int .i64 z] h fun _ h' => Wrote h h' p (rrC s q x z) 78 := by
  refine fn_of 14 Tryz.func68 rfl (by kernel_rfl) rfl (by simp) ?_
  refine cw_go rfl ?_
  conv => whnf
  refine ⟨_, _, y, by show 2 < 4; decide, ?_⟩
  intro h1 w1
  replace w1 := w1.cast (l' := rrC s q x w) (by rfl)
  conv => whnf
  refine ⟨_, _, w1.new, by show 3 < 4; decide, ?_⟩
  intro h2 w2
  replace w2 := w2.cast (l' := rrC s q x z) (by rfl)
  exact ⟨by rw [w2.size, w1.size], w2.new, fun b hb => by rw [w2.block b hb, w1.block b hb]⟩
theorem rshort_q {h : Heap} {v : Value} {l : List UInt8} (r : RB h v l) (hl : l.length ≤ 1000000000) {n : Nat} (hn : n ≤ l.length) :
    FxQ Tryz.prog 99 #[v, .int .i64 (n : Int)] h (.tuple #[.int .u64 ((Cd.numAt l n).1 : Int), .int .i64 ((Cd.numAt l n).2.1 : Int), .int .i64 ((Cd.numAt l n).2.2 : Int)]) :=
  fun h1 e => (rshort_fn (Vm.Src.more r e) hl hn).mono fun u h2 ⟨h3, h4⟩ => ⟨h3, h4 ▸ ExtH.refl _⟩
theorem rruint_none {h : Heap} {p : Nat} {s : Value} {q e w : Int} (y : Blk h p (rrC s q e w) 78) (he : e ≠ 0) :
    Fx Tryz.prog 69 #[.pointer (some ⟨p, 0, none⟩)] h fun u h' => u = .int .u64 0 ∧ h' = h := by
  refine fn_of 42 Tryz.func69 rfl (by kernel_rfl) rfl (by simp) ?_
  refine cw_seq (cw_go rfl ?_)
  conv => whnf
  refine cw_seq (cw_seq (cw_go rfl ?_))
  conv => whnf
  refine ⟨_, y.rd (o := 2) rfl, ?_⟩
  conv => whnf
  refine say_t (by omega) ?_
  conv => whnf
  refine cw_true rfl ?_
  refine cw_seq (cw_go rfl ?_)
  conv => whnf
  exact cw_ret ⟨rfl, rfl⟩
theorem rruint_some {h : Heap} {p : Nat} {s : Value} {k : Nat} {w : Int} {l : List UInt8} (y : Blk h p (rrC s (k : Int) 0 w) 78) (r : RB h s l) (hl : l.length ≤ 1000000000) (hk : k ≤ l.length) :
    Fx Tryz.prog 69 #[.pointer (some ⟨p, 0, none⟩)] h fun u h' =>
      ((Cd.numAt l k).2.2 = 0 ∧ u = .int .u64 ((Cd.numAt l k).1 : Int) ∧ ∃ g, ExtH h g ∧ Wrote g h' p (rrC s ((k + (Cd.numAt l k).2.1 : Nat) : Int) 0 w) 78) ∨
      ((Cd.numAt l k).2.2 ≠ 0 ∧ u = .int .u64 0 ∧ ∃ g, ExtH h g ∧ Wrote g h' p (rrC s (k : Int) ((Cd.numAt l k).2.2 : Int) (k : Int)) 78) := by
  obtain ⟨sa, sc, hse, _⟩ := Vm.Src.form r
  subst hse
  have h10 := Cd.num_le10 (l.drop k) 0 0 (by decide)
  have hkl := Cd.num_k (l.drop k) 0 0
  have her := Cd.num_err (l.drop k) 0 0
  rw [List.length_drop] at hkl
  change (Cd.numAt l k).2.2 = 0 → _ at h10
  change (Cd.numAt l k).2.2 = 0 → _ ≤ (Cd.numAt l k).2.1 ∧ (Cd.numAt l k).2.1 ≤ _ at hkl
  change (Cd.numAt l k).2.2 ≤ _ at her
  have hq := rshort_q r hl hk
  refine fn_of 42 Tryz.func69 rfl (by kernel_rfl) rfl (by simp) ?_
  refine cw_seq (cw_go rfl ?_)
  conv => whnf
  refine cw_seq (cw_seq (cw_go rfl ?_))
  conv => whnf
  refine ⟨_, y.rd (o := 2) rfl, ?_⟩
  conv => whnf
  refine say_f (by omega) ?_
  conv => whnf
  refine cw_false rfl (cw_skip ?_)
  refine cw_seq (cw_dgo (by kernel_rfl) 15 (List.range 15) (by kernel_rfl) rfl ?_)
  conv => whnf
  refine ⟨_, y.rd (o := 0) rfl, ?_⟩
  conv => whnf
  refine ⟨_, y.rd (o := 1) rfl, ?_⟩
  conv => whnf
  refine ⟨_, rfl, _, hq, ?_⟩
  conv => whnf
  intro h1 x1
  have y1 := x1.blk y
  generalize Cd.numAt l k = res at *
  obtain ⟨n, kk, er⟩ := res
  simp only [] at h10 hkl her ⊢
  conv => whnf
  refine cw_seq (cw_seq (cw_go rfl ?_))
  conv => whnf
  by_cases h0 : er = 0
  · subst h0
    have h10 := h10 rfl
    have hkl := hkl rfl
    refine say_f (by decide) ?_
    conv => whnf
    refine cw_false rfl (cw_skip ?_)
    refine cw_seq (cw_go rfl ?_)
    conv => whnf
    refine ⟨_, y1.rd (o := 1) rfl, ?_⟩
    conv => whnf
    refine say_i (by omega) ?_
    conv => whnf
    refine ⟨_, _, y1, by show 1 < 4; decide, ?_⟩
    intro h2 w2
    replace w2 := w2.cast (l' := rrC (.slice sa l.length sc) ((k + kk : Nat) : Int) 0 w) (by rw [show ((k + kk : Nat) : Int) = (k : Int) + kk by push_cast; rfl]; rfl)
    conv => whnf
    refine cw_seq (cw_go rfl ?_)
    conv => whnf
    exact cw_ret (.inl ⟨rfl, rfl, h1, x1, w2⟩)
  · refine say_t (by omega) ?_
    conv => whnf
    refine cw_true rfl ?_
    refine cw_seq (cw_go rfl ?_)
    conv => whnf
    refine ⟨_, y1.rd (o := 1) rfl, ?_⟩
    conv => whnf
    refine ⟨_, rfl, _, rfail_fn y1, ?_⟩
    rintro _ h2 w2
    conv => whnf
    refine cw_seq (cw_go rfl ?_)
    conv => whnf
    exact cw_ret (.inr ⟨h0, rfl, h1, x1, w2⟩)
/-- a step of the reader -/
theorem rrd_w {h g h' : Heap} {p : Nat} {s : Value} {q e w q' e' w' : Int} {l : List UInt8} (y : Blk h p (rrC s q e w) 78) (r : RB h s l) (hsp : ∀ b, ob s b → b < p) (x : ExtH h g) (W : Wrote g h' p (rrC s q' e' w') 78) :
    Blk h' p (rrC s q' e' w') 78 ∧ RB h' s l ∧ Own1 p h h' := by
  have := x.size
  exact ⟨W.new, (Vm.Src.more r x).keep (own1_w W) (ob_ne hsp), ⟨by have := W.size; omega, fun b hb hne => by rw [W.block b hne, x.block b hb]⟩⟩
theorem Own1.trans {p : Nat} {h1 h2 h3 : Heap} (a : Own1 p h1 h2) (b : Own1 p h2 h3) : Own1 p h1 h3 :=
  ⟨Nat.le_trans a.size b.size, fun c hc hn => by rw [b.block c (Nat.lt_of_lt_of_le hc a.size) hn, a.block c hc hn]⟩
theorem rcount_fn {h : Heap} {p : Nat} {l : List UInt8} {st : Cd.St} (R : RRd h p l st) (hl : l.length ≤ 1000000000) {most : Nat} (hm : most ≤ 1000000000000) :
    Fx Tryz.prog 38 #[.pointer (some ⟨p, 0, none⟩), .int .i64 (most : Int)] h fun u h' => u = .int .i64 ((Cd.count l most st).1 : Int) ∧ RRd h' p l (Cd.count l most st).2 ∧ Own1 p h h' := by
  obtain ⟨s, q, e, w, y, r, hsp, hst⟩ := R
  refine fn_of 45 Tryz.func38 rfl (by kernel_rfl) rfl (by simp) ?_
  refine cw_seq (cw_go rfl ?_)
  conv => whnf
  refine cw_seq (cw_go rfl ?_)
  conv => whnf
  refine ⟨_, y.rd (o := 1) rfl, ?_⟩
  conv => whnf
  refine cw_seq (cw_seq (cw_go rfl ?_))
  conv => whnf
  refine ⟨_, y.rd (o := 2) rfl, ?_⟩
  conv => whnf
  cases st with
  | none =>
    refine say_f (by show ¬ e = 0; exact hst) ?_
    conv => whnf
    refine cw_false rfl (cw_skip ?_)
    refine cw_seq (cw_go rfl ?_)
    conv => whnf
    refine ⟨_, rfl, _, rruint_none y hst, ?_⟩
    rintro _ _ ⟨rfl, e0⟩
    replace e0 := e0.symm
    subst e0
    conv => whnf
    refine cw_seq (cw_seq (cw_go rfl ?_))
    conv => whnf
    refine ⟨_, y.rd (o := 2) rfl, ?_⟩
    conv => whnf
    refine say_f (by show ¬ e = 0; exact hst) ?_
    conv => whnf
    refine cw_false rfl (cw_skip ?_)
    refine cw_seq (cw_go rfl ?_)
    conv => whnf
    refine say_i (by decide) ?_
    conv => whnf
    exact cw_ret ⟨rfl, ⟨s, q, e, w, y, r, hsp, hst⟩, (ExtH.refl _).chg⟩
  | some k =>
    obtain ⟨rfl, hk, rfl⟩ := hst
    refine say_t (by show (0 : Int) = 0; rfl) ?_
    conv => whnf
    refine say_f (by omega) ?_
    conv => whnf
    refine cw_false rfl (cw_skip ?_)
    have hlt := Cd.num_lt (l.drop k) 0 0 (by decide) (by decide)
    have hkl := Cd.num_k (l.drop k) 0 0
    rw [List.length_drop] at hkl
    have hcnt : Cd.count l most (some k) = if (Cd.numAt l k).2.2 = 0 ∧ (Cd.numAt l k).1 ≤ most then ((Cd.numAt l k).1, some (k + (Cd.numAt l k).2.1)) else (0, none) := rfl
    rw [hcnt]
    change (Cd.numAt l k).1 < _ at hlt
    change (Cd.numAt l k).2.2 = 0 → _ ≤ (Cd.numAt l k).2.1 ∧ (Cd.numAt l k).2.1 ≤ _ at hkl
    refine cw_seq (cw_go rfl ?_)
    conv => whnf
    refine ⟨_, rfl, _, rruint_some y r hl hk, ?_⟩
    rintro u h2 hu
    generalize Cd.numAt l k = res at *
    obtain ⟨n, kk, er⟩ := res
    simp only [] at hlt hkl hu ⊢
    rcases hu with ⟨rfl, rfl, g, xg, W⟩ | ⟨hne, rfl, g, xg, W⟩
    · have hkl := hkl rfl
      obtain ⟨y2, r2, c2⟩ := rrd_w y r hsp xg W
      conv => whnf
      refine cw_seq (cw_seq (cw_go rfl ?_))
      conv => whnf
      refine ⟨_, y2.rd (o := 2) rfl, ?_⟩
      conv => whnf
      refine say_t (by show (0 : Int) = 0; rfl) ?_
      conv => whnf
      refine say_u64 (by omega) ?_
      conv => whnf
      by_cases hA : n ≤ most
      · rw [if_pos ⟨rfl, hA⟩]
        refine say_f (by omega) ?_
        conv => whnf
        refine cw_false rfl (cw_skip ?_)
        refine cw_seq (cw_go rfl ?_)
        conv => whnf
        refine say_i (by omega) ?_
        conv => whnf
        exact cw_ret ⟨rfl, ⟨s, _, 0, w, y2, r2, hsp, rfl, by omega, rfl⟩, c2⟩
      · rw [if_neg (fun h => hA h.2)]
        refine say_t (by omega) ?_
        conv => whnf
        refine cw_true rfl ?_
        refine cw_seq (cw_go rfl ?_)
        conv => whnf
        refine ⟨_, _, y2, by show 1 < 4; decide, ?_⟩
        intro h3 w3
        replace w3 := w3.cast (l' := rrC s (k : Int) 0 w) (by rfl)
        obtain ⟨y3, r3, c3⟩ := rrd_w y2 r2 hsp (ExtH.refl _) w3
        conv => whnf
        refine cw_seq (cw_go rfl ?_)
        conv => whnf
        refine ⟨_, rfl, _, rfail_fn y3, ?_⟩
        rintro _ h4 w4
        obtain ⟨y4, r4, c4⟩ := rrd_w y3 r3 hsp (ExtH.refl _) w4
        conv => whnf
        refine cw_seq (cw_go rfl ?_)
        conv => whnf
        exact cw_ret ⟨rfl, ⟨s, _, 11, _, y4, r4, hsp, by show (11 : Int) ≠ 0; decide⟩, (c2.trans c3).trans c4⟩
    · rw [if_neg (fun h => hne h.1)]
      obtain ⟨y2, r2, c2⟩ := rrd_w y r hsp xg W
      conv => whnf
      refine cw_seq (cw_seq (cw_go rfl ?_))
      conv => whnf
      refine ⟨_, y2.rd (o := 2) rfl, ?_⟩
      conv => whnf
      refine say_f (by omega) ?_
      conv => whnf
      refine cw_false rfl (cw_skip ?_)
      refine cw_seq (cw_go rfl ?_)
      conv => whnf
      refine say_i (by decide) ?_
      conv => whnf
      exact cw_ret ⟨rfl, ⟨s, _, _, _, y2, r2, hsp, by show (er : Int) ≠ 0; omega⟩, c2⟩
end Go.Proofs.YtkdmpdbbcgdfkaaGreatDoor
namespace Go.Proofs.YtkdmpdbbcgdfkaaGreatDoor
open Go Vm
set_option maxRecDepth 100000
set_option linter.unusedVariables false
set_option linter.unusedSimpArgs false
theorem rraw_fn {h : Heap} {p : Nat} {l : List UInt8} {st : Cd.St} (R : RRd h p l st) (hl : l.length ≤ 1000000000) {n : Nat} (hn : n ≤ 1000000000) :
    Fx Tryz.prog 37 #[.pointer (some ⟨p, 0, none⟩), .int .i64 (n : Int)] h fun u h' => OB h' u (Cd.raw l n st).1 ∧ RRd h' p l (Cd.raw l n st).2 ∧ Own1 p h h' ∧ ∀ b, ob u b → h.size ≤ b := by
  obtain ⟨s, q, e, w, y, r, hsp, hst⟩ := R
  obtain ⟨sa, sc, hse, _, hsc⟩ := Vm.Src.form r
  subst hse
  have hp := y.lt
  refine fn_of 60 Tryz.func37 rfl (by kernel_rfl) rfl (by simp) ?_
  refine cw_seq (cw_go rfl ?_)
  conv => whnf
  refine cw_seq (cw_seq (cw_go rfl ?_))
  conv => whnf
  refine ⟨_, y.rd (o := 2) rfl, ?_⟩
  conv => whnf
  cases st with
  | none =>
    refine say_t (by show e ≠ 0; exact hst) ?_
    conv => whnf
    refine cw_true rfl ?_
    refine cw_seq (cw_go rfl ?_)
    conv => whnf
    exact cw_ret ⟨OB.nil _, ⟨_, q, e, w, y, r, hsp, hst⟩, (ExtH.refl _).chg, fun b hb => (ob_nil hb).elim⟩
  | some k =>
    obtain ⟨rfl, hk, rfl⟩ := hst
    refine say_f (by show ¬ (0 : Int) ≠ 0; decide) ?_
    conv => whnf
    refine cw_false rfl (cw_skip ?_)
    refine cw_seq (cw_seq (cw_go rfl ?_))
    conv => whnf
    refine say_f (by omega) ?_
    conv => whnf
    refine cw_false rfl (cw_skip ?_)
    refine cw_seq ?_
    refine cw_seq (cw_dgo (by kernel_rfl) 11 (List.range 11) (by kernel_rfl) rfl ?_)
    conv => whnf
    refine ⟨_, y.rd (o := 0) rfl, ?_⟩
    conv => whnf
    refine ⟨_, y.rd (o := 1) rfl, ?_⟩
    conv => whnf
    refine say_i (by omega) ?_
    conv => whnf
    intro h1 x1
    have y1 := x1.blk y
    have r1 := Vm.Src.more r x1
    have z1 := x1.size
    conv => whnf
    have hraw : Cd.raw l n (some k) = if n ≤ l.length - k then ((l.drop k).take n, some (k + n)) else ([], none) := rfl
    rw [hraw]
    by_cases hA : n ≤ l.length - k
    · rw [if_pos hA]
      refine say_f (by omega) ?_
      conv => whnf
      refine cw_false rfl (cw_skip ?_)
      refine cw_seq (cw_go rfl ?_)
      conv => whnf
      refine ⟨_, y1.rd (o := 1) rfl, ?_⟩
      conv => whnf
      refine say_i (by omega) ?_
      conv => whnf
      refine ⟨_, _, y1, by show 1 < 4; decide, ?_⟩
      intro h2 w2
      replace w2 := w2.cast (l' := rrC (.slice sa l.length sc) ((k + n : Nat) : Int) 0 w) (by rw [show ((k + n : Nat) : Int) = (k : Int) + n by push_cast; rfl]; rfl)
      have y2 := w2.new
      have r2 := Vm.Src.keep r1 (own1_w w2) (ob_ne hsp)
      have z2 := w2.size
      conv => whnf
      refine cw_seq (cw_dgo (by kernel_rfl) 14 (List.range 14) (by kernel_rfl) rfl ?_)
      conv => whnf
      refine ⟨_, y2.rd (o := 0) rfl, ?_⟩
      conv => whnf
      refine ⟨_, y2.rd (o := 1) rfl, ?_⟩
      conv => whnf
      refine say_w (y := (k : Int)) (by rw [IntKind.wrap_i64]; push_cast; omega) ?_
      conv => whnf
      refine ⟨_, y2.rd (o := 1) rfl, ?_⟩
      conv => whnf
      intro h3 x3
      conv => whnf
      obtain ⟨hb, A, hA', hr⟩ := RB.cut (Vm.Src.more r2 x3) k (k + n) (by omega) (by omega) (x := (k : Int)) (y := ((k + n : Nat) : Int)) rfl rfl
      refine ⟨hb, A, hA', ?_⟩
      conv => whnf
      refine ⟨_, rfl, _, append_bytes (ty := 46) (OB.nil h3) hr (by simp; omega), ?_⟩
      rintro u h4 ⟨o4, c4, f4⟩
      conv => whnf
      have x4 : ExtH h3 h4 := ext_of_chg (ExtH.refl _) c4 (fun b hb => (ob_nil hb).elim)
      have z3 := x3.size
      have z4 := x4.size
      have x24 := x3.trans x4
      have e1 : k + n - k = n := by omega
      rw [e1, List.nil_append] at o4
      refine cw_ret ⟨o4, ⟨_, _, 0, w, x24.blk y2, Vm.Src.more r2 x24, hsp, rfl, by omega, rfl⟩, ?_, fun b hb => (f4 b hb).elim (fun e => (ob_nil e).elim) (fun e => by omega)⟩
      exact ⟨by omega, fun b hb hne => by rw [x24.block b (by omega), w2.block b hne, x1.block b hb]⟩
    · rw [if_neg hA]
      refine say_t (by omega) ?_
      conv => whnf
      refine cw_true rfl ?_
      refine cw_seq (cw_go rfl ?_)
      conv => whnf
      refine ⟨_, y1.rd (o := 1) rfl, ?_⟩
      conv => whnf
      refine ⟨_, rfl, _, rfail_fn y1, ?_⟩
      rintro _ h2 w2
      conv => whnf
      refine cw_seq (cw_go rfl ?_)
      conv => whnf
      obtain ⟨y2, r2, c2⟩ := rrd_w y r hsp x1 w2
      exact cw_ret ⟨OB.nil _, ⟨_, _, 4, _, y2, r2, hsp, by show (4 : Int) ≠ 0; decide⟩, c2, fun b hb => (ob_nil hb).elim⟩
end Go.Proofs.YtkdmpdbbcgdfkaaGreatDoor
namespace Go.Proofs.YtkdmpdbbcgdfkaaGreatDoor
open Go Vm
set_option maxRecDepth 100000
set_option linter.unusedVariables false
set_option linter.unusedSimpArgs false
theorem rtext_fn {h : Heap} {p : Nat} {l : List UInt8} {st : Cd.St} (R : RRd h p l st) (hl : l.length ≤ 1000000000) {most : Nat} (hm : most ≤ 1000000000) :
    Fx Tryz.prog 39 #[.pointer (some ⟨p, 0, none⟩), .int .i64 (most : Int)] h fun u h' => u = .string (bs (Cd.text l most st).1) ∧ RRd h' p l (Cd.text l most st).2 ∧ Own1 p h h' := by
  obtain ⟨s, q, e, w, y, r, hsp, hst⟩ := R
  obtain ⟨sa, sc, hse, _, hsc⟩ := Vm.Src.form r
  subst hse
  refine fn_of 67 Tryz.func39 rfl (by kernel_rfl) rfl (by simp) ?_
  refine cw_seq (cw_go rfl ?_)
  conv => whnf
  refine cw_seq (cw_go rfl ?_)
  conv => whnf
  refine ⟨_, y.rd (o := 1) rfl, ?_⟩
  conv => whnf
  refine cw_seq (cw_seq (cw_go rfl ?_))
  conv => whnf
  refine ⟨_, y.rd (o := 2) rfl, ?_⟩
  conv => whnf
  cases st with
  | none =>
    refine say_f (by show ¬ e = 0; exact hst) ?_
    conv => whnf
    refine cw_false rfl (cw_skip ?_)
    refine cw_seq (cw_go rfl ?_)
    conv => whnf
    refine ⟨_, rfl, _, rruint_none y hst, ?_⟩
    rintro _ _ ⟨rfl, e0⟩
    replace e0 := e0.symm
    subst e0
    conv => whnf
    refine cw_seq (cw_seq (cw_go rfl ?_))
    conv => whnf
    refine ⟨_, y.rd (o := 2) rfl, ?_⟩
    conv => whnf
    refine say_t (by show e ≠ 0; exact hst) ?_
    conv => whnf
    refine cw_true rfl ?_
    refine cw_seq (cw_go rfl ?_)
    conv => whnf
    exact cw_ret ⟨rfl, ⟨_, q, e, w, y, r, hsp, hst⟩, (ExtH.refl _).chg⟩
  | some k =>
    obtain ⟨rfl, hk, rfl⟩ := hst
    refine say_t (by show (0 : Int) = 0; rfl) ?_
    conv => whnf
    refine say_f (by omega) ?_
    conv => whnf
    refine cw_false rfl (cw_skip ?_)
    have hlt := Cd.num_lt (l.drop k) 0 0 (by decide) (by decide)
    have hkl := Cd.num_k (l.drop k) 0 0
    rw [List.length_drop] at hkl
    have htx : Cd.text l most (some k) = if (Cd.numAt l k).2.2 = 0 ∧ (Cd.numAt l k).1 ≤ most ∧ (Cd.numAt l k).1 ≤ l.length - k - (Cd.numAt l k).2.1 then
      ((l.drop (k + (Cd.numAt l k).2.1)).take (Cd.numAt l k).1, some (k + (Cd.numAt l k).2.1 + (Cd.numAt l k).1)) else ([], none) := rfl
    rw [htx]
    change (Cd.numAt l k).1 < _ at hlt
    change (Cd.numAt l k).2.2 = 0 → _ ≤ (Cd.numAt l k).2.1 ∧ (Cd.numAt l k).2.1 ≤ _ at hkl
    refine cw_seq (cw_go rfl ?_)
    conv => whnf
    refine ⟨_, rfl, _, rruint_some y r hl hk, ?_⟩
    rintro u h2 hu
    generalize Cd.numAt l k = res at *
    obtain ⟨n, kk, er⟩ := res
    simp only [] at hlt hkl hu ⊢
    rcases hu with ⟨rfl, rfl, g, xg, W⟩ | ⟨hne, rfl, g, xg, W⟩
    · have hkl := hkl rfl
      obtain ⟨y2, r2, c2⟩ := rrd_w y r hsp xg W
      conv => whnf
      refine cw_seq (cw_seq (cw_go rfl ?_))
      conv => whnf
      refine ⟨_, y2.rd (o := 2) rfl, ?_⟩
      conv => whnf
      refine say_f (by show ¬ (0 : Int) ≠ 0; decide) ?_
      conv => whnf
      refine cw_false rfl (cw_skip ?_)
      -- what a failure comes to
      have fail : ∀ (E : Int) (h3 : Heap), E ≠ 0 → Blk h3 p (rrC (.slice sa l.length sc) ((k + kk : Nat) : Int) E (k : Int)) 78 → RB h3 (.slice sa l.length sc) l → Own1 p h h3 → True := fun _ _ _ _ _ _ => trivial
      refine cw_seq (cw_seq (cw_go rfl ?_))
      conv => whnf
      refine say_u64 (by omega) ?_
      conv => whnf
      by_cases h1 : n ≤ most
      · refine say_f (by omega) ?_
        conv => whnf
        refine cw_false rfl ?_
        refine cw_seq (cw_dgo (by kernel_rfl) 12 (List.range 12) (by kernel_rfl) rfl ?_)
        conv => whnf
        refine ⟨_, y2.rd (o := 0) rfl, ?_⟩
        conv => whnf
        refine ⟨_, y2.rd (o := 1) rfl, ?_⟩
        conv => whnf
        refine say_i (by omega) ?_
        conv => whnf
        refine say_w (y := ((l.length - k - kk : Nat) : Int)) (by rw [IntKind.wrap_u64]; omega) ?_
        conv => whnf
        intro h3 x3
        have y3 := x3.blk y2
        have r3 := Vm.Src.more r2 x3
        conv => whnf
        by_cases h2' : n ≤ l.length - k - kk
        · rw [if_pos ⟨rfl, h1, h2'⟩]
          refine say_f (by omega) ?_
          conv => whnf
          refine cw_false rfl (cw_skip ?_)
          refine cw_seq (cw_seq (cw_go rfl ?_))
          conv => whnf
          refine ⟨_, y3.rd (o := 2) rfl, ?_⟩
          conv => whnf
          refine say_f (by show ¬ (0 : Int) ≠ 0; decide) ?_
          conv => whnf
          refine cw_false rfl (cw_skip ?_)
          refine cw_seq (cw_go rfl ?_)
          conv => whnf
          refine say_i (by omega) ?_
          conv => whnf
          have R3 : RRd h3 p l (some (k + kk)) := ⟨_, _, 0, w, y3, r3, hsp, rfl, by omega, rfl⟩
          have hraw : Cd.raw l n (some (k + kk)) = ((l.drop (k + kk)).take n, some (k + kk + n)) := by
            show (if n ≤ l.length - (k + kk) then _ else _) = _
            rw [if_pos (by omega)]
          refine ⟨_, rfl, _, rraw_fn R3 hl (n := n) (by omega), ?_⟩
          rintro u h4 ⟨o4, R4, c4, f4⟩
          rw [hraw] at o4 R4
          conv => whnf
          refine ⟨_, conv_str rfl rfl rfl (OB.r o4), ?_⟩
          rintro _ _ ⟨rfl, e0⟩
          replace e0 := e0.symm
          subst e0
          conv => whnf
          have z3 := x3.size
          refine cw_ret ⟨rfl, R4, (c2.trans ?_).trans c4⟩
          exact ⟨z3, fun b hb _ => x3.block b hb⟩
        · rw [if_neg (fun h => h2' h.2.2)]
          refine say_t (by omega) ?_
          conv => whnf
          refine cw_true rfl ?_
          refine cw_go rfl ?_
          conv => whnf
          refine ⟨_, rfl, _, rfail_fn y3, ?_⟩
          rintro _ h4 w4
          obtain ⟨y4, r4, c4⟩ := rrd_w y3 r3 hsp (ExtH.refl _) w4
          conv => whnf
          have c24 : Own1 p h h4 := (c2.trans ⟨x3.size, fun b hb _ => x3.block b hb⟩).trans c4
          refine cw_seq (cw_seq (cw_go rfl ?_))
          conv => whnf
          refine ⟨_, y4.rd (o := 2) rfl, ?_⟩
          conv => whnf
          refine say_t (by show (4 : Int) ≠ 0; decide) ?_
          conv => whnf
          refine cw_true rfl ?_
          refine cw_seq (cw_go rfl ?_)
          conv => whnf
          refine ⟨_, _, y4, by show 1 < 4; decide, ?_⟩
          intro h5 w5
          replace w5 := w5.cast (l' := rrC (.slice sa l.length sc) (k : Int) 4 (k : Int)) (by rfl)
          obtain ⟨y5, r5, c5⟩ := rrd_w y4 r4 hsp (ExtH.refl _) w5
          conv => whnf
          refine cw_seq (cw_go rfl ?_)
          conv => whnf
          exact cw_ret ⟨rfl, ⟨_, _, 4, _, y5, r5, hsp, by show (4 : Int) ≠ 0; decide⟩, c24.trans c5⟩
      · rw [if_neg (fun h => h1 h.2.1)]
        refine say_t (by omega) ?_
        conv => whnf
        refine cw_true rfl ?_
        refine cw_go rfl ?_
        conv => whnf
        refine ⟨_, rfl, _, rfail_fn y2, ?_⟩
        rintro _ h4 w4
        obtain ⟨y4, r4, c4⟩ := rrd_w y2 r2 hsp (ExtH.refl _) w4
        conv => whnf
        refine cw_seq (cw_seq (cw_go rfl ?_))
        conv => whnf
        refine ⟨_, y4.rd (o := 2) rfl, ?_⟩
        conv => whnf
        refine say_t (by show (3 : Int) ≠ 0; decide) ?_
        conv => whnf
        refine cw_true rfl ?_
        refine cw_seq (cw_go rfl ?_)
        conv => whnf
        refine ⟨_, _, y4, by show 1 < 4; decide, ?_⟩
        intro h5 w5
        replace w5 := w5.cast (l' := rrC (.slice sa l.length sc) (k : Int) 3 (k : Int)) (by rfl)
        obtain ⟨y5, r5, c5⟩ := rrd_w y4 r4 hsp (ExtH.refl _) w5
        conv => whnf
        refine cw_seq (cw_go rfl ?_)
        conv => whnf
        exact cw_ret ⟨rfl, ⟨_, _, 3, _, y5, r5, hsp, by show (3 : Int) ≠ 0; decide⟩, (c2.trans c4).trans c5⟩
    · rw [if_neg (fun h => hne h.1)]
      obtain ⟨y2, r2, c2⟩ := rrd_w y r hsp xg W
      conv => whnf
      refine cw_seq (cw_seq (cw_go rfl ?_))
      conv => whnf
      refine ⟨_, y2.rd (o := 2) rfl, ?_⟩
      conv => whnf
      refine say_t (by show (er : Int) ≠ 0; omega) ?_
      conv => whnf
      refine cw_true rfl ?_
      refine cw_seq (cw_go rfl ?_)
      conv => whnf
      exact cw_ret ⟨rfl, ⟨_, _, _, _, y2, r2, hsp, by show (er : Int) ≠ 0; omega⟩, c2⟩
end Go.Proofs.YtkdmpdbbcgdfkaaGreatDoor
