/-
  The program's reader: a list of texts.
  The program's reader: its end, and a new one.
  An answer in memory: rows of structures.
  cold.long: is a text too long?
-/
import Derived.Test.YtkdmpdbbcgdfkaaGreatDoorJ9
namespace Go.Proofs.YtkdmpdbbcgdfkaaGreatDoor
open Go Vm
set_option maxRecDepth 100000
set_option linter.unusedVariables false
set_option linter.unusedSimpArgs false
theorem infoStr : (Tryz.prog.info? 9).map (fun i => (i.zero, i.size, i.bytes)) = some (some (.string ⟨#[]⟩), 1, 16) := by kernel_rfl
/-- our own texts -/
def OT (h : Heap) (v : Value) (l : List (List UInt8)) : Prop := OwnS h 9 1 v l.length (l.map strv)
theorem OT.r {h : Heap} {v : Value} {l : List (List UInt8)} (o : OT h v l) : RT h v l := OwnS.src o
theorem OT.nil (h : Heap) : OT h (.slice none 0 0) [] := OwnS.nil h _ _
theorem OT.more {h h' : Heap} {v : Value} {l : List (List UInt8)} (o : OT h v l) (e : ExtH h h') : OT h' v l := OwnS.more o e
theorem OT.keep {S : Nat → Prop} {h h' : Heap} {v : Value} {l : List (List UInt8)} (o : OT h v l) (c : Chg S h h') (hn : ∀ b, ob v b → ¬ S b) : OT h' v l := OwnS.keep o c hn
theorem append_t {h : Heap} {v x : Value} {l m : List (List UInt8)} {ty : TypeId} (hd : OT h v l) (hs : RT h x m) (hl : l.length + m.length ≤ 1000000000) :
    RunsV Tryz.prog (Builtin.append_ #[24, 24] ty #[v, x]) h fun v' h' => OT h' v' (l ++ m) ∧ Chg (ob v) h h' ∧ ∀ b, ob v' b → ob v b ∨ h.size ≤ b := by
  obtain ⟨i0, hi, hz0, hz1, hz2⟩ := info_parts infoStr
  have := append_own (P := Tryz.prog) (t := 24) (ty := ty) (e := 9) rfl hi hz0 (by rw [hz1]; rfl) hz1 hd hs (fun u hu => by obtain ⟨_, _, rfl⟩ := List.mem_map.1 hu; rfl) (by unfold maxLen; omega) (by rw [hz2]; omega)
  refine this.mono fun v' h' ⟨h1, h2, h3⟩ => ⟨?_, h2, h3⟩
  unfold OT
  simpa using h1
theorem RT.one {h h' : Heap} {s : List UInt8} {t : TypeId} (n : Newed h h' (.cells #[strv s] t)) : RT h' (.slice (some ⟨h.size, 0, none⟩) 1 1) [s] := by
  refine ⟨by simp, .inr ⟨⟨h.size, 0, none⟩, 1, rfl, Nat.le_refl _, by decide, rdA_plain.2 ?_⟩⟩
  exact n.blk.all
theorem Cd.texts_succ (l : List UInt8) (each m : Nat) (s : Cd.St) : Cd.texts l each (m + 1) s = ((Cd.text l each s).1 :: (Cd.texts l each m (Cd.text l each s).2).1, (Cd.texts l each m (Cd.text l each s).2).2) := rfl
theorem Cd.texts_none (l : List UInt8) (each : Nat) : ∀ n, (Cd.texts l each n none).2 = none
  | 0 => rfl
  | n + 1 => by rw [Cd.texts_succ]; exact Cd.texts_none l each n
theorem Cd.texts_len (l : List UInt8) (each : Nat) : ∀ n s, (Cd.texts l each n s).1.length = n
  | 0, _ => rfl
  | n + 1, s => by rw [Cd.texts_succ]; simp [Cd.texts_len l each n]
theorem Cd.list_eq (l : List UInt8) (most each : Nat) (s : Cd.St) : Cd.list l most each s = match (Cd.texts l each (Cd.count l most s).1 (Cd.count l most s).2).2 with
    | some p => ((Cd.texts l each (Cd.count l most s).1 (Cd.count l most s).2).1, some p)
    | none => ([], none) := by
  unfold Cd.list
  obtain ⟨a, b⟩ := Cd.count l most s
  simp only
  obtain ⟨x, y⟩ := Cd.texts l each a b
  cases y <;> rfl
theorem list_fn {h : Heap} {p : Nat} {l : List UInt8} {st : Cd.St} (R : RdAt h p l st) (hl : l.length ≤ 1000000000) {most each : Nat} (hm : most ≤ 1000000) (he' : each ≤ 1000000000000) :
    Fx Tryz.prog 33 #[.pointer (some ⟨p, 0, none⟩), .int .i64 (most : Int), .int .i64 (each : Int)] h fun u h' => OT h' u (Cd.list l most each st).1 ∧ RdAt h' p l (Cd.list l most each st).2 ∧ Own1 p h h' ∧ ∀ b, ob u b → h.size ≤ b := by
  obtain ⟨s, q, e, a, y, r, hsp, he, ha, hst⟩ := R
  have hp := y.lt
  refine fn_of 96 Tryz.func33 rfl (by kernel_rfl) rfl (by simp) ?_
  refine cw_seq (cw_go rfl ?_)
  conv => whnf
  refine cw_seq (cw_seq (cw_go rfl ?_))
  conv => whnf
  refine ⟨_, rfl, _, well_fn y he ha, ?_⟩
  rintro _ _ ⟨rfl, e0⟩
  replace e0 := e0.symm
  subst e0
  cases st with
  | none =>
    rw [decide_eq_false (fun h => hst h.1)]
    conv => whnf
    refine cw_true rfl ?_
    refine cw_seq (cw_go rfl ?_)
    conv => whnf
    have e1 : Cd.list l most each none = ([], none) := by
      rw [Cd.list_eq]; rfl
    rw [e1]
    exact cw_ret ⟨OT.nil _, ⟨s, q, e, a, y, r, hsp, he, ha, hst⟩, (ExtH.refl _).chg, fun b hb => (ob_nil hb).elim⟩
  | some k =>
    obtain ⟨rfl, hk, rfl, rfl⟩ := hst
    rw [decide_eq_true ⟨rfl, rfl⟩]
    conv => whnf
    refine cw_false rfl (cw_skip ?_)
    refine cw_seq (cw_seq (cw_go rfl ?_))
    conv => whnf
    refine say_f (by omega) ?_
    conv => whnf
    refine say_f (by omega) ?_
    conv => whnf
    refine cw_false rfl (cw_skip ?_)
    have hlt := Cd.num_lt (l.drop k) 0 0 (by decide) (by decide)
    have h10 := Cd.num_le10 (l.drop k) 0 0 (by decide)
    have hkl := Cd.num_k (l.drop k) 0 0
    have her := Cd.num_err (l.drop k) 0 0
    rw [List.length_drop] at hkl
    have hcnt : Cd.count l most (some k) = if (Cd.numAt l k).2.2 = 0 ∧ (Cd.numAt l k).1 ≤ most then ((Cd.numAt l k).1, some (k + (Cd.numAt l k).2.1)) else (0, none) := rfl
    rw [Cd.list_eq, hcnt]
    change (Cd.numAt l k).1 < _ at hlt
    change (Cd.numAt l k).2.2 = 0 → _ at h10
    change (Cd.numAt l k).2.2 = 0 → _ ≤ (Cd.numAt l k).2.1 ∧ (Cd.numAt l k).2.1 ≤ _ at hkl
    change (Cd.numAt l k).2.2 ≤ _ at her
    refine cw_seq (cw_go rfl ?_)
    conv => whnf
    refine ⟨_, y.rd (o := 1) rfl, ?_⟩
    conv => whnf
    refine ⟨_, rfl, _, number_fn y r hl hk, ?_⟩
    rintro _ _ ⟨rfl, e0⟩
    replace e0 := e0.symm
    subst e0
    generalize Cd.numAt l k = res at *
    obtain ⟨n, kk, er⟩ := res
    simp only [] at hlt h10 hkl her ⊢
    conv => whnf
    refine cw_seq (cw_seq (cw_go rfl ?_))
    conv => whnf
    by_cases hA : er = 0 ∧ n ≤ most
    · rw [if_pos hA]
      obtain ⟨rfl, hnm⟩ := hA
      have h10 := h10 rfl
      have hkl := hkl rfl
      refine say_t (by decide) ?_
      conv => whnf
      refine say_u64 (by omega) ?_
      conv => whnf
      refine say_f (by omega) ?_
      conv => whnf
      refine cw_false rfl (cw_skip ?_)
      refine cw_seq (cw_seq (cw_go rfl ?_))
      conv => whnf
      refine say_f (by decide) ?_
      conv => whnf
      refine cw_false rfl (cw_skip ?_)
      refine cw_seq (cw_go rfl ?_)
      conv => whnf
      refine cw_seq (cw_go rfl ?_)
      conv => whnf
      refine ⟨_, y.rd (o := 1) rfl, ?_⟩
      conv => whnf
      refine say_i (by omega) ?_
      conv => whnf
      generalize hT : Cd.texts l each n (some (k + kk)) = T
      refine cw_seq (cw_block ?_)
      refine cw_loop (S := Value × List (List UInt8) × Nat × Nat) (fun s => [(0, .pointer (some ⟨p, 0, none⟩)), (2, .int .i64 (each : Int)), (7, .int .u64 (s.2.2.1 : Int)), (10, s.1), (11, .int .i64 (s.2.2.2 : Int))])
        (fun s h' => (∃ a c, s.1 = .slice a s.2.1.length c) ∧ OT h' s.1 s.2.1 ∧ (∀ b, ob s.1 b → h.size ≤ b) ∧ ExtH h h' ∧ s.2.1 ++ (Cd.texts l each s.2.2.1 (some s.2.2.2)).1 = T.1 ∧ (Cd.texts l each s.2.2.1 (some s.2.2.2)).2 = T.2 ∧ s.2.2.2 ≤ l.length ∧ s.2.1.length + s.2.2.1 ≤ most) (fun s => s.2.2.1)
        (.slice none 0 0, [], n, k + kk) ⟨rfl, rfl, rfl, rfl, by simp only []; rw [show ((k + kk : Nat) : Int) = (k : Int) + kk by push_cast; rfl]; rfl, trivial⟩
        ⟨⟨none, 0, rfl⟩, OT.nil _, fun b hb => (ob_nil hb).elim, ExtH.refl _, by rw [hT]; rfl, by rw [hT], by show k + kk ≤ _; omega, by show 0 + n ≤ most; omega⟩ ?_
      rintro ⟨x, xs, m, at_⟩ h1 ⟨⟨xa, xc, hx⟩, o1, f1, x1, g1, g2, ha1, hlen⟩
      simp only at hx o1 f1 g1 g2 ha1 hlen
      subst hx
      have y1 := x1.blk y
      have r1 := Vm.Src.more r x1
      have z1 := x1.size
      refine cw_seq (cw_seq (cw_go rfl ?_))
      conv => whnf
      cases m with
      | zero =>
        refine say_f (by show ¬ ((0 : Nat) : Int) > 0; omega) ?_
        refine cw_false rfl (cw_exit ?_)
        refine cw_seq (cw_go rfl ?_)
        conv => whnf
        refine ⟨_, _, y1, by show 1 < 5; decide, ?_⟩
        intro h2 w2
        replace w2 := w2.cast (l' := rdC s (at_ : Int) 0 0) (by rfl)
        conv => whnf
        refine cw_seq (cw_go rfl ?_)
        conv => whnf
        have hfin : T = (xs, some at_) := by
          simp only [Cd.texts, List.append_nil] at g1 g2
          exact Prod.ext g1.symm g2.symm
        rw [hfin]
        have hc : Own1 p h h2 := ⟨by have := w2.size; omega, fun b hb hn => by rw [w2.block b hn, x1.block b hb]⟩
        exact cw_ret ⟨o1.keep (own1_w w2) (fun b hb e => by have := f1 b hb; omega), ⟨s, (at_ : Int), 0, 0, w2.new, r1.keep (own1_w w2) (ob_ne hsp), hsp, he, ha, rfl, ha1, rfl, rfl⟩, hc, f1⟩
      | succ m =>
        refine say_t (by show ((m + 1 : Nat) : Int) > 0; omega) ?_
        refine cw_true rfl (cw_skip ?_)
        refine cw_seq (cw_block ?_)
        refine cw_seq (cw_go rfl ?_)
        conv => whnf
        refine ⟨_, rfl, _, text_at_fn y1 r1 hl ha1 he', ?_⟩
        rintro u _ ⟨e0, hu⟩
        replace e0 := e0.symm
        subst e0
        rw [Cd.texts_succ] at g1 g2
        rcases hu with ⟨e', ht, he1, rfl⟩ | ⟨ht, er, hr1, hr2, hr3, rfl⟩
        · rw [ht] at g1 g2
          conv => whnf
          refine cw_seq (cw_seq (cw_go rfl ?_))
          conv => whnf
          refine say_f (by decide) ?_
          conv => whnf
          refine cw_false rfl (cw_skip ?_)
          refine cw_seq (cw_go rfl ?_)
          conv => whnf
          refine ⟨_, rfl, #[strv ((l.drop (at_ + (Cd.numAt l at_).2.1)).take (Cd.numAt l at_).1)], 9, fun w => by kernel_rfl, ?_⟩
          conv => whnf
          intro h2 n2
          conv => whnf
          refine ⟨_, rfl, _, append_t (ty := 24) (OT.more o1 n2.ext) (RT.one n2) (by simp only [List.length_cons, List.length_nil]; omega), ?_⟩
          rintro u h3 ⟨o3, c3, f3⟩
          have z2 := n2.size
          obtain ⟨ua, uc, hue, _⟩ := Vm.Src.form (OT.r o3)
          subst hue
          have x3 : ExtH h h3 := ext_of_chg (x1.trans n2.ext) c3 f1
          conv => whnf
          refine cw_go rfl ?_
          conv => whnf
          refine cw_go rfl ?_
          conv => whnf
          refine say_w (y := ((m : Nat) : Int)) (by show IntKind.u64.wrap (((m + 1 : Nat) : Int) - 1) = _; rw [IntKind.wrap_u64]; omega) ?_
          conv => whnf
          refine ⟨(.slice ua (xs ++ [(l.drop (at_ + (Cd.numAt l at_).2.1)).take (Cd.numAt l at_).1]).length uc, xs ++ [(l.drop (at_ + (Cd.numAt l at_).2.1)).take (Cd.numAt l at_).1], m, e'), ⟨rfl, rfl, rfl, rfl, rfl, trivial⟩, ⟨⟨_, _, rfl⟩, o3, ?_, x3, ?_, g2, he1, ?_⟩, by show m < m + 1; omega⟩
          · exact fun b hb => (f3 b hb).elim (fun e => f1 b e) (fun e => by omega)
          · rw [← g1]; simp
          · show (xs ++ [_]).length + m ≤ most
            simp only [List.length_append, List.length_cons, List.length_nil]; omega
        · rw [ht] at g1 g2
          conv => whnf
          refine cw_seq (cw_seq (cw_go rfl ?_))
          conv => whnf
          refine say_t (by omega) ?_
          conv => whnf
          refine cw_true rfl ?_
          refine cw_seq (cw_go rfl ?_)
          conv => whnf
          refine ⟨_, rfl, _, fails_fn y1, ?_⟩
          rintro _ h2 w2
          conv => whnf
          refine cw_seq (cw_go rfl ?_)
          conv => whnf
          have hfin : T.2 = none := by rw [← g2]; exact Cd.texts_none _ _ _
          rw [hfin]
          have hc : Own1 p h h2 := ⟨by have := w2.size; omega, fun b hb hn => by rw [w2.block b hn, x1.block b hb]⟩
          exact cw_ret ⟨OT.nil _, ⟨s, (k : Int), er, (at_ : Int), w2.new, r1.keep (own1_w w2) (ob_ne hsp), hsp, wf64 _ (by omega), wf64 _ (by omega), hr1⟩, hc, fun b hb => (ob_nil hb).elim⟩
    · rw [if_neg hA]
      have hfail : (match (Cd.texts l each (0, (none : Cd.St)).1 (0, (none : Cd.St)).2).2 with
        | some p => ((Cd.texts l each (0, (none : Cd.St)).1 (0, (none : Cd.St)).2).1, some p)
        | none => (([] : List (List UInt8)), (none : Option Nat))) = ([], none) := rfl
      rw [hfail]
      by_cases h0 : er = 0
      case' pos =>
        subst h0
        refine say_t (by decide) ?_
        conv => whnf
        refine say_u64 (by omega) ?_
        conv => whnf
        refine say_t (by have := fun h => hA ⟨rfl, h⟩; omega) ?_
        conv => whnf
        refine cw_true rfl ?_
        refine cw_go rfl ?_
        conv => whnf
        generalize hE : (11 : Int) = E
        have hE0 : E ≠ 0 ∧ 0 ≤ E ∧ E ≤ 11 := by omega
        clear hE
      case' neg =>
        refine say_f (by omega) ?_
        conv => whnf
        refine cw_false rfl (cw_skip ?_)
        generalize hE : (er : Int) = E
        have hE0 : E ≠ 0 ∧ 0 ≤ E ∧ E ≤ 11 := by omega
        clear hE
      all_goals
        refine cw_seq (cw_seq (cw_go rfl ?_))
        conv => whnf
        refine say_t (by omega) ?_
        conv => whnf
        refine cw_true rfl ?_
        refine cw_seq (cw_go rfl ?_)
        conv => whnf
        refine ⟨_, y.rd (o := 1) rfl, ?_⟩
        conv => whnf
        refine ⟨_, rfl, _, fails_fn y, ?_⟩
        rintro _ h1 w1
        conv => whnf
        refine cw_seq (cw_go rfl ?_)
        conv => whnf
        refine cw_ret ⟨OT.nil _, ⟨s, (k : Int), E, (k : Int), w1.new, r.keep (own1_w w1) (ob_ne hsp), hsp, wf64 _ (by omega), wf64 _ (by omega), hE0.1⟩, own1_w w1, fun b hb => (ob_nil hb).elim⟩
end Go.Proofs.YtkdmpdbbcgdfkaaGreatDoor
namespace Go.Proofs.YtkdmpdbbcgdfkaaGreatDoor
open Go Vm
set_option maxRecDepth 100000
set_option linter.unusedVariables false
set_option linter.unusedSimpArgs false
theorem end_fn {h : Heap} {p : Nat} {l : List UInt8} {st : Cd.St} (R : RdAt h p l st) (hl : l.length ≤ 1000000000) :
    Fx Tryz.prog 35 #[.pointer (some ⟨p, 0, none⟩)] h fun u h' => ∃ e a : Int, u = .agg (fltC e a).toArray ∧ (Lit.int .i64 e).wf = true ∧ (Lit.int .i64 a).wf = true ∧ (e = 0 ∧ a = 0 ↔ st = some l.length) ∧ Own1 p h h' := by
  obtain ⟨s, q, e, a, y, r, hsp, he, ha, hst⟩ := R
  have hp := y.lt
  refine fn_of 21 Tryz.func35 rfl (by kernel_rfl) rfl (by simp) ?_
  refine cw_seq (cw_go rfl ?_)
  conv => whnf
  intro h1 n1
  conv => whnf
  have x1 := n1.ext
  have y1 := x1.blk y
  have r1 := Vm.Src.more r x1
  have b1 : Blk h1 h.size (fltC 0 0) 38 := n1.blk
  have z1 := n1.size
  refine cw_seq (cw_seq (cw_go rfl ?_))
  conv => whnf
  refine ⟨_, rfl, _, well_fn y1 he ha, ?_⟩
  rintro _ _ ⟨rfl, e0⟩
  replace e0 := e0.symm
  subst e0
  cases st with
  | none =>
    rw [decide_eq_false (fun h => hst h.1)]
    conv => whnf
    refine cw_false rfl (cw_skip ?_)
    refine cw_seq (cw_go rfl ?_)
    conv => whnf
    refine ⟨_, rfl, _, fault_fn y1, ?_⟩
    rintro _ h2 ⟨rfl, x2⟩
    conv => whnf
    refine ⟨_, _, x2.blk b1, ⟨by show 2 ≤ 2; decide, rfl, by simp [fltC, Value.oneCell']⟩, ?_⟩
    intro h3 w3
    have y3 : Blk h3 h.size (fltC e a) 38 := w3.new
    have z2 := x2.size
    have z3 := w3.size
    refine cw_ret ?_
    refine ⟨fltC e a, rfl, y3.rdN 0 (fltC e a) rfl, ?_⟩
    exact ⟨e, a, rfl, he, ha, ⟨fun h => (hst h.1).elim, fun h => by cases h⟩, ⟨by omega, fun b hb hne => by rw [w3.block b (by omega), x2.block b (by omega), n1.block b hb]⟩⟩
  | some k =>
    obtain ⟨rfl, hk, rfl, rfl⟩ := hst
    rw [decide_eq_true ⟨rfl, rfl⟩]
    conv => whnf
    refine ⟨_, rfl, _, left_fn y1 r1 hl ⟨by omega, by omega⟩, ?_⟩
    rintro _ h2 ⟨rfl, x2⟩
    have z2 := x2.size
    conv => whnf
    refine say_d (fun hg => ?_) (fun hg => ?_)
    · conv => whnf
      refine cw_true rfl ?_
      refine cw_go rfl ?_
      conv => whnf
      have y2 := x2.blk y1
      refine ⟨_, y2.rd (o := 1) rfl, ?_⟩
      conv => whnf
      refine ⟨_, rfl, _, fails_fn y2, ?_⟩
      rintro _ h5 w5
      conv => whnf
      have z5 := w5.size
      have b5 : Blk h5 h.size (fltC 0 0) 38 := by
        have : h5[h.size]? = h2[h.size]? := w5.block _ (by omega)
        exact this.trans (x2.blk b1)
      refine cw_seq (cw_go rfl ?_)
      conv => whnf
      refine ⟨_, rfl, _, fault_fn w5.new, ?_⟩
      rintro _ h3 ⟨rfl, x3⟩
      conv => whnf
      refine ⟨_, _, x3.blk b5, ⟨by show 2 ≤ 2; decide, rfl, by simp [fltC, Value.oneCell']⟩, ?_⟩
      intro h4 w4
      have y4 : Blk h4 h.size (fltC 6 (k : Int)) 38 := w4.new
      have z3 := x3.size
      have z4 := w4.size
      refine cw_ret ?_
      refine ⟨fltC 6 (k : Int), rfl, y4.rdN 0 (fltC 6 (k : Int)) rfl, ?_⟩
      exact ⟨6, (k : Int), rfl, wf64 _ (by omega), wf64 _ (by omega), ⟨fun h => absurd h.1 (by decide), fun h => by injection h with h; omega⟩, ⟨by omega, fun b hb hne => by rw [w4.block b (by omega), x3.block b (by omega), w5.block b hne, x2.block b (by omega), n1.block b hb]⟩⟩
    · conv => whnf
      refine cw_false rfl (cw_skip ?_)
      refine cw_seq (cw_go rfl ?_)
      conv => whnf
      refine ⟨_, rfl, _, fault_fn (x2.blk y1), ?_⟩
      rintro _ h3 ⟨rfl, x3⟩
      conv => whnf
      refine ⟨_, _, x3.blk (x2.blk b1), ⟨by show 2 ≤ 2; decide, rfl, by simp [fltC, Value.oneCell']⟩, ?_⟩
      intro h4 w4
      have y4 : Blk h4 h.size (fltC 0 0) 38 := w4.new
      have z3 := x3.size
      have z4 := w4.size
      refine cw_ret ?_
      refine ⟨fltC 0 0, rfl, y4.rdN 0 (fltC 0 0) rfl, ?_⟩
      exact ⟨0, 0, rfl, wf64 _ (by omega), wf64 _ (by omega), ⟨fun _ => by congr 1; omega, fun _ => ⟨rfl, rfl⟩⟩, ⟨by omega, fun b hb hne => by rw [w4.block b (by omega), x3.block b (by omega), x2.block b (by omega), n1.block b hb]⟩⟩
theorem newReader_fn {h : Heap} {v : Value} {l : List UInt8} (r : RB h v l) (hl : l.length ≤ 1000000000) :
    Fx Tryz.prog 29 #[v] h fun u h' => ∃ p, u = .pointer (some ⟨p, 0, none⟩) ∧ h.size ≤ p ∧ RdAt h' p l (some 0) ∧ ExtH h h' := by
  obtain ⟨sa, sc, hse, _⟩ := Vm.Src.form r
  subst hse
  refine fn_of 8 Tryz.func29 rfl (by kernel_rfl) rfl (by simp) ?_
  refine cw_seq (cw_go rfl ?_)
  conv => whnf
  refine cw_seq (cw_go rfl ?_)
  conv => whnf
  refine ⟨_, rfl, _, fresh_fn r 0 hl (by omega), ?_⟩
  rintro u h1 ⟨o1, x1, f1⟩
  obtain ⟨ua, uc, hue, _⟩ := Vm.Src.form (OB.r o1)
  subst hue
  conv => whnf
  refine ⟨_, rfl, #[.slice ua l.length uc, .int .i64 0, .bool true], fun w => by kernel_rfl, ?_⟩
  conv => whnf
  conv => whnf
  refine ⟨_, rfl, (rdC (.slice ua l.length uc) 0 0 0).toArray, fun w => by kernel_rfl, ?_⟩
  conv => whnf
  conv => whnf
  intro h2 n2
  conv => whnf
  have z1 := x1.size
  refine cw_ret ⟨h1.size, rfl, z1, ⟨.slice ua l.length uc, 0, 0, 0, n2.blk, Vm.Src.more (OB.r o1) n2.ext, fun b hb => ?_, by decide, by decide, rfl, by omega, rfl, rfl⟩, x1.trans n2.ext⟩
  rcases o1.cases with ⟨hv, _⟩ | ⟨g, cap, tl, hv, _, _, hg, _⟩
  · rw [hv] at hb; exact (ob_nil hb).elim
  · rw [hv] at hb
    have := hg.lt
    rw [ob_slice] at hb; omega
end Go.Proofs.YtkdmpdbbcgdfkaaGreatDoor
namespace Go.Proofs.YtkdmpdbbcgdfkaaGreatDoor
open Go Vm
set_option maxRecDepth 100000
set_option linter.unusedVariables false
set_option linter.unusedSimpArgs false
theorem flat_get {α : Type} (C : α → List Value) (k : Nat) : ∀ (l : List α) (t : Nat) (d : α), (∀ x ∈ l, (C x).length = k) → t < l.length → ∀ (j : Nat) (v : Value), (C (l.getD t d))[j]? = some v → (l.flatMap C)[t * k + j]? = some v
  | [], t, d, _, h, _, _, _ => by simp at h
  | x :: l, 0, d, hk, h, j, v, hj => by
    have hlt := (List.getElem?_eq_some_iff.1 hj).1
    simp only [List.flatMap_cons, Nat.zero_mul, Nat.zero_add]
    rw [List.getElem?_append_left (by simpa using hlt)]
    simpa using hj
  | x :: l, t + 1, d, hk, h, j, v, hj => by
    have hx := hk x (by simp)
    simp only [List.flatMap_cons]
    rw [List.getElem?_append_right (by rw [hx, Nat.succ_mul]; omega), hx]
    have e : (t + 1) * k + j - k = t * k + j := by rw [Nat.succ_mul]; omega
    rw [e]
    exact flat_get C k l t d (fun y hy => hk y (by simp [hy])) (by simpa using h) j v (by simpa using hj)
theorem flat_len {α : Type} (C : α → List Value) (k : Nat) : ∀ (l : List α), (∀ x ∈ l, (C x).length = k) → (l.flatMap C).length = l.length * k
  | [], _ => by simp
  | x :: l, hk => by
    rw [List.flatMap_cons, List.length_append, hk x (by simp), flat_len C k l fun y hy => hk y (by simp [hy]), List.length_cons, Nat.succ_mul]; omega
theorem src_get {α : Type} {C : α → List Value} {k : Nat} {h : Heap} {A : Option Addr} {n c : Nat} {l : List α} (r : Vm.Src h k (.slice A n c) l.length (l.flatMap C)) (hk : ∀ x ∈ l, (C x).length = k) (h0 : 0 < k) (t : Nat) (d : α) (ht : t < l.length) :
    ∃ b o, A = some ⟨b, o, none⟩ ∧ rdN h b (o + t * k) (C (l.getD t d)) := by
  rcases r.2 with ⟨h1, h2⟩ | ⟨X, cap, h1, hc, hm, hr⟩
  · omega
  · injection h1 with h1
    have hfl := flat_len C k l hk
    have hne : l.flatMap C ≠ [] := by
      intro e; rw [e] at hfl
      have : 0 < l.length * k := Nat.mul_pos (by omega) h0
      simp at hfl; omega
    have hs := hr.spot hne
    rw [hs, rdA_plain] at hr
    refine ⟨X.block, X.off, by rw [← hs]; exact h1, fun j v hj => ?_⟩
    have := hr (t * k + j) v (flat_get C k l t d hk ht j v hj)
    rw [Nat.add_assoc]
    exact this
def dgC (d : Cd.Dg) : List Value := [strv d.path, .int .i64 d.why, .int .i64 d.at_]
def seC (s : Cd.Se) : List Value := [strv s.path, .int .i64 s.what, .int .i64 s.kind] ++ s.dig.map u8v
def dg0 : Cd.Dg := ⟨[], 0, 0⟩
def se0 : Cd.Se := ⟨[], 0, 0, List.replicate 32 0⟩
/-- rows that are read -/
def RDg (h : Heap) (v : Value) (l : List Cd.Dg) : Prop := Vm.Src h 3 v l.length (l.flatMap dgC)
def RSe (h : Heap) (v : Value) (l : List Cd.Se) : Prop := Vm.Src h 35 v l.length (l.flatMap seC) ∧ ∀ s ∈ l, s.dig.length = 32
def ODg (h : Heap) (v : Value) (l : List Cd.Dg) : Prop := OwnS h 50 3 v l.length (l.flatMap dgC)
def OSe (h : Heap) (v : Value) (l : List Cd.Se) : Prop := OwnS h 55 35 v l.length (l.flatMap seC) ∧ ∀ s ∈ l, s.dig.length = 32
theorem RDg.more {h h' : Heap} {v : Value} {l : List Cd.Dg} (r : RDg h v l) (e : ExtH h h') : RDg h' v l := Vm.Src.more r e
theorem RSe.more {h h' : Heap} {v : Value} {l : List Cd.Se} (r : RSe h v l) (e : ExtH h h') : RSe h' v l := ⟨Vm.Src.more r.1 e, r.2⟩
theorem ODg.r {h : Heap} {v : Value} {l : List Cd.Dg} (o : ODg h v l) : RDg h v l := OwnS.src o
theorem OSe.r {h : Heap} {v : Value} {l : List Cd.Se} (o : OSe h v l) : RSe h v l := ⟨OwnS.src o.1, o.2⟩
theorem RDg.get {h : Heap} {A : Option Addr} {n c : Nat} {l : List Cd.Dg} (r : RDg h (.slice A n c) l) (t : Nat) (ht : t < l.length) : ∃ b o, A = some ⟨b, o, none⟩ ∧ rdN h b (o + t * 3) (dgC (l.getD t dg0)) :=
  src_get r (fun _ _ => rfl) (by omega) t dg0 ht
theorem seC_len {s : Cd.Se} (h : s.dig.length = 32) : (seC s).length = 35 := by simp [seC, h]
theorem RSe.get {h : Heap} {A : Option Addr} {n c : Nat} {l : List Cd.Se} (r : RSe h (.slice A n c) l) (t : Nat) (ht : t < l.length) : ∃ b o, A = some ⟨b, o, none⟩ ∧ rdN h b (o + t * 35) (seC (l.getD t se0)) :=
  src_get r.1 (fun s hs => seC_len (r.2 s hs)) (by omega) t se0 ht
/-- an answer -/
structure RA (h : Heap) (v : Value) (a : Cd.An) : Prop where
  cells : ∃ dv uv rv, v = .agg #[.int .i64 a.code, dv, uv, strv a.bytes, rv] ∧ RDg h dv a.diags ∧ RT h uv a.units ∧ RSe h rv a.reads
theorem RA.more {h h' : Heap} {v : Value} {a : Cd.An} (r : RA h v a) (e : ExtH h h') : RA h' v a := by
  obtain ⟨dv, uv, rv, h1, h2, h3, h4⟩ := r.cells
  exact ⟨dv, uv, rv, h1, h2.more e, h3.more e, h4.more e⟩
theorem infoDg : (Tryz.prog.info? 50).map (fun i => (i.zero, i.size, i.bytes)) = some (some (.agg (dgC dg0).toArray), 3, 32) := by kernel_rfl
theorem infoSe : (Tryz.prog.info? 55).map (fun i => (i.zero, i.size, i.bytes)) = some (some (.agg (seC se0).toArray), 35, 64) := by kernel_rfl
theorem dgC_one (l : List Cd.Dg) : ∀ u ∈ l.flatMap dgC, u.oneCell' = true := fun u hu => by
  obtain ⟨d, _, h⟩ := List.mem_flatMap.1 hu
  simp only [dgC, List.mem_cons, List.not_mem_nil, or_false] at h
  rcases h with rfl | rfl | rfl <;> rfl
theorem seC_one (l : List Cd.Se) : ∀ u ∈ l.flatMap seC, u.oneCell' = true := fun u hu => by
  obtain ⟨d, _, h⟩ := List.mem_flatMap.1 hu
  simp only [seC, List.mem_append, List.mem_cons, List.not_mem_nil, or_false, List.mem_map] at h
  rcases h with (rfl | rfl | rfl) | ⟨b, _, rfl⟩ <;> rfl
theorem dgC1 (d : Cd.Dg) : ∀ u ∈ (dgC d).toArray.toList, u.oneCell' = true := fun u hu => dgC_one [d] u (by rw [List.flatMap_cons, List.flatMap_nil, List.append_nil]; exact hu)
theorem seC1 (d : Cd.Se) : ∀ u ∈ (seC d).toArray.toList, u.oneCell' = true := fun u hu => seC_one [d] u (by rw [List.flatMap_cons, List.flatMap_nil, List.append_nil]; exact hu)
theorem splice_all {l m : List Value} (h : m.length = l.length) : splice l 0 m = m := by
  unfold splice
  simp [h]
theorem append_dg {h : Heap} {v x : Value} {l m : List Cd.Dg} {ty : TypeId} (hd : ODg h v l) (hs : RDg h x m) (hl : l.length + m.length ≤ 1000000000) :
    RunsV Tryz.prog (Builtin.append_ #[23, 23] ty #[v, x]) h fun v' h' => ODg h' v' (l ++ m) ∧ Chg (ob v) h h' ∧ ∀ b, ob v' b → ob v b ∨ h.size ≤ b := by
  obtain ⟨i0, hi, hz0, hz1, hz2⟩ := info_parts infoDg
  have := append_own (P := Tryz.prog) (t := 23) (ty := ty) (e := 50) rfl hi hz0 (by rw [hz1]; rfl) hz1 hd hs (dgC_one m) (by unfold maxLen; omega) (by rw [hz2]; omega)
  refine this.mono fun v' h' ⟨h1, h2, h3⟩ => ⟨?_, h2, h3⟩
  unfold ODg
  rw [List.flatMap_append, List.length_append]
  exact h1
theorem append_se {h : Heap} {v x : Value} {l m : List Cd.Se} {ty : TypeId} (hd : OSe h v l) (hs : RSe h x m) (hl : l.length + m.length ≤ 1000000000) :
    RunsV Tryz.prog (Builtin.append_ #[25, 25] ty #[v, x]) h fun v' h' => OSe h' v' (l ++ m) ∧ Chg (ob v) h h' ∧ ∀ b, ob v' b → ob v b ∨ h.size ≤ b := by
  obtain ⟨i0, hi, hz0, hz1, hz2⟩ := info_parts infoSe
  have := append_own (P := Tryz.prog) (t := 25) (ty := ty) (e := 55) rfl hi hz0 (by rw [hz1]; rfl) hz1 hd.1 hs.1 (seC_one m) (by unfold maxLen; omega) (by rw [hz2]; omega)
  refine this.mono fun v' h' ⟨h1, h2, h3⟩ => ⟨⟨?_, fun s hm => ?_⟩, h2, h3⟩
  · rw [List.flatMap_append, List.length_append]
    exact h1
  · rcases List.mem_append.1 hm with hm | hm
    · exact hd.2 s hm
    · exact hs.2 s hm
theorem RDg.one {h h' : Heap} {d : Cd.Dg} {t : TypeId} (n : Newed h h' (.cells (dgC d).toArray t)) : RDg h' (.slice (some ⟨h.size, 0, none⟩) 1 1) [d] := by
  refine ⟨by simp [dgC], .inr ⟨⟨h.size, 0, none⟩, 1, rfl, Nat.le_refl _, by decide, rdA_plain.2 ?_⟩⟩
  simpa using n.blk.all
theorem RSe.one {h h' : Heap} {s : Cd.Se} {t : TypeId} (hd : s.dig.length = 32) (n : Newed h h' (.cells (seC s).toArray t)) : RSe h' (.slice (some ⟨h.size, 0, none⟩) 1 1) [s] := by
  refine ⟨⟨by simp [seC_len hd], .inr ⟨⟨h.size, 0, none⟩, 1, rfl, Nat.le_refl _, by decide, rdA_plain.2 ?_⟩⟩, by simpa using hd⟩
  simpa using n.blk.all
end Go.Proofs.YtkdmpdbbcgdfkaaGreatDoor
namespace Go.Proofs.YtkdmpdbbcgdfkaaGreatDoor
open Go Vm
set_option maxRecDepth 100000
set_option linter.unusedVariables false
set_option linter.unusedSimpArgs false
theorem long1_fn (s : List UInt8) (hs : s.length ≤ 1000000000) (h : Heap) : Fx Tryz.prog 71 #[strv s] h fun u h' => u = .bool (decide (4096 < s.length)) ∧ h' = h := by
  refine fn_of 6 Tryz.func71 rfl (by kernel_rfl) rfl (by simp) ?_
  refine cw_seq (cw_go rfl ?_)
  conv => whnf
  refine cw_seq (cw_go rfl ?_)
  conv => whnf
  refine say_len ?_
  conv => whnf
  refine say_d (fun hg => ?_) (fun hg => ?_)
  · conv => whnf
    exact cw_ret ⟨by rw [decide_eq_true (by omega)]; rfl, rfl⟩
  · conv => whnf
    exact cw_ret ⟨by rw [decide_eq_false (by omega)]; rfl, rfl⟩
theorem index_long {h : Heap} {v : Value} {l : List (List UInt8)} (r : RT h v l) (hl : ∀ s ∈ l, s.length ≤ 1000000000) :
    Fx Tryz.prog 100 #[v, .func (.func 71) #[] #[]] h fun u h' => (∃ i : Int, u = .int .i64 i ∧ (0 ≤ i ↔ Cd.long l = true)) ∧ h' = h := by
  obtain ⟨sa, sc, hse, hsm⟩ := r.fix
  subst hse
  simp only [maxLen] at hsm
  refine fn_of 19 Tryz.func100 rfl (by kernel_rfl) rfl (by simp) ?_
  refine cw_seq (cw_go rfl ?_)
  conv => whnf
  refine cw_seq (cw_seq (cw_go rfl ?_))
  conv => whnf
  refine cw_block ?_
  refine cw_loop (S := Nat) (fun t => [(0, .slice sa l.length sc), (1, .func (.func 71) #[] #[]), (7, .int .i64 (l.length : Int)), (8, .int .i64 (t : Int))])
    (fun t h' => h' = h ∧ t ≤ l.length ∧ ∀ i, i < t → (l.getD i []).length ≤ 4096) (fun t => l.length - t) 0 ⟨rfl, rfl, rfl, rfl, trivial⟩ ⟨rfl, Nat.zero_le _, fun i hi => by omega⟩ ?_
  rintro t h1 ⟨rfl, ht, hall⟩
  refine cw_seq (cw_go rfl ?_)
  conv => whnf
  refine say_d (fun hg => ?_) (fun hg => ?_)
  · refine cw_seq (cw_true rfl (cw_skip ?_))
    have htl : t < l.length := by omega
    obtain ⟨b, o, rfl, hrd⟩ := r.get t htl
    have hsl := hl (l.getD t []) (by rw [List.getD_eq_getElem?_getD, List.getElem?_eq_getElem htl]; exact List.getElem_mem htl)
    refine cw_seq (cw_block ?_)
    refine cw_seq (cw_go rfl ?_)
    conv => whnf
    refine cw_seq (cw_go rfl ?_)
    conv => whnf
    refine And.intro ⟨by omega, by omega⟩ ?_
    refine ⟨_, hrd, ?_⟩
    conv => whnf
    refine ⟨_, rfl, _, long1_fn (l.getD t []) hsl _, ?_⟩
    rintro _ _ ⟨rfl, e0⟩
    replace e0 := e0.symm
    subst e0
    by_cases hbig : 4096 < (l.getD t []).length
    · rw [decide_eq_true hbig]
      conv => whnf
      refine cw_true rfl ?_
      refine cw_seq (cw_go rfl ?_)
      conv => whnf
      refine cw_ret ⟨⟨(t : Int), rfl, ⟨fun _ => ?_, fun _ => by omega⟩⟩, rfl⟩
      unfold Cd.long
      rw [List.any_eq_true]
      exact ⟨l.getD t [], by rw [List.getD_eq_getElem?_getD, List.getElem?_eq_getElem htl]; exact List.getElem_mem htl, by simpa using hbig⟩
    · rw [decide_eq_false hbig]
      conv => whnf
      refine cw_false rfl (cw_skip ?_)
      refine cw_go rfl ?_
      conv => whnf
      refine say_i (by omega) ?_
      conv => whnf
      refine ⟨t + 1, ⟨rfl, rfl, rfl, by simp only []; rw [show ((t + 1 : Nat) : Int) = (t : Int) + 1 by push_cast; rfl]; rfl, trivial⟩, ⟨rfl, by omega, fun i hi => ?_⟩, by show l.length - (t + 1) < l.length - t; omega⟩
      by_cases e : i = t
      · subst e; omega
      · exact hall i (by omega)
  · refine cw_seq (cw_false rfl (cw_exit ?_))
    have htl : t = l.length := by omega
    subst htl
    refine cw_seq (cw_go rfl ?_)
    conv => whnf
    refine cw_ret ⟨⟨-1, rfl, ⟨fun h => by omega, fun h => ?_⟩⟩, rfl⟩
    unfold Cd.long at h
    rw [List.any_eq_true] at h
    obtain ⟨s, hs, h4⟩ := h
    obtain ⟨i, hi, rfl⟩ := List.mem_iff_getElem.1 hs
    have := hall i hi
    rw [List.getD_eq_getElem?_getD, List.getElem?_eq_getElem hi] at this
    simp at h4 this
    omega
theorem contains_long {h : Heap} {v : Value} {l : List (List UInt8)} (r : RT h v l) (hl : ∀ s ∈ l, s.length ≤ 1000000000) :
    Fx Tryz.prog 70 #[v, .func (.func 71) #[] #[]] h fun u h' => u = .bool (Cd.long l) ∧ h' = h := by
  refine fn_of 9 Tryz.func70 rfl (by kernel_rfl) rfl (by simp) ?_
  refine cw_seq (cw_go rfl ?_)
  conv => whnf
  refine cw_seq (cw_go rfl ?_)
  conv => whnf
  refine ⟨_, rfl, _, index_long r hl, ?_⟩
  rintro _ _ ⟨⟨i, rfl, hi⟩, e0⟩
  replace e0 := e0.symm
  subst e0
  conv => whnf
  refine say_d (fun hg => ?_) (fun hg => ?_)
  · conv => whnf
    exact cw_ret ⟨by rw [hi.1 (by omega)]; rfl, rfl⟩
  · conv => whnf
    refine cw_ret ⟨?_, rfl⟩
    have : Cd.long l = false := by
      cases hb : Cd.long l with
      | false => rfl
      | true => exact absurd (hi.2 hb) (by omega)
    rw [this]; rfl
theorem long_fn {h : Heap} {v : Value} {l : List (List UInt8)} (r : RT h v l) (hl : ∀ s ∈ l, s.length ≤ 1000000000) :
    Fx Tryz.prog 44 #[v] h fun u h' => u = .bool (Cd.long l) ∧ h' = h := by
  obtain ⟨sa, sc, hse, hsm⟩ := r.fix
  subst hse
  refine fn_of 5 Tryz.func44 rfl (by kernel_rfl) rfl (by simp) ?_
  refine cw_seq (cw_go rfl ?_)
  conv => whnf
  refine cw_seq (cw_go rfl ?_)
  conv => whnf
  refine ⟨_, rfl, _, contains_long r hl, ?_⟩
  rintro _ _ ⟨rfl, e0⟩
  replace e0 := e0.symm
  subst e0
  conv => whnf
  exact cw_ret ⟨rfl, rfl⟩
end Go.Proofs.YtkdmpdbbcgdfkaaGreatDoor
