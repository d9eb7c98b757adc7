/-
  cold.may: can an answer be?
  The document's May.
  The document's short number.
-/
import Derived.Test.YtkdmpdbbcgdfkaaGreatDoorJ10
namespace Go.Proofs.YtkdmpdbbcgdfkaaGreatDoor
open Go Vm
set_option maxRecDepth 100000
set_option linter.unusedVariables false
set_option linter.unusedSimpArgs false
theorem Cd.may_no {a : Cd.An} (h : a.code < 0 ∨ 2147483647 < a.code ∨ 64 < a.diags.length ∨ 64 < a.units.length ∨ 2097152 < a.bytes.length ∨ 65536 < a.reads.length ∨ Cd.long a.units = true) : Cd.may a = false := by
  unfold Cd.may Cd.most
  rcases h with h | h | h | h | h | h | h
  · rw [decide_eq_false (show ¬ 0 ≤ a.code by omega)]; simp
  · rw [decide_eq_false (show ¬ a.code ≤ ((2147483647 : Nat) : Int) by omega)]; simp
  · rw [decide_eq_false (show ¬ a.diags.length ≤ 64 by omega)]; simp
  · rw [decide_eq_false (show ¬ a.units.length ≤ 64 by omega)]; simp
  · rw [decide_eq_false (show ¬ a.bytes.length ≤ 2097152 by omega)]; simp
  · rw [decide_eq_false (show ¬ a.reads.length ≤ 65536 by omega)]; simp
  · rw [h]; simp
theorem Cd.may_noD {a : Cd.An} {i : Nat} (hi : i < a.diags.length) (h : Cd.mayD (a.diags.getD i dg0) = false) : Cd.may a = false := by
  have : a.diags.all Cd.mayD = false := by
    rw [List.all_eq_false]
    exact ⟨a.diags.getD i dg0, by rw [List.getD_eq_getElem?_getD, List.getElem?_eq_getElem hi]; exact List.getElem_mem hi, by rw [h]; decide⟩
  unfold Cd.may
  rw [this]; simp
theorem Cd.may_noR {a : Cd.An} {i : Nat} (hi : i < a.reads.length) (h : Cd.mayR (a.reads.getD i se0) = false) : Cd.may a = false := by
  have : a.reads.all Cd.mayR = false := by
    rw [List.all_eq_false]
    exact ⟨a.reads.getD i se0, by rw [List.getD_eq_getElem?_getD, List.getElem?_eq_getElem hi]; exact List.getElem_mem hi, by rw [h]; decide⟩
  unfold Cd.may
  rw [this]; simp
theorem all_getD {α : Type} {p : α → Bool} {l : List α} {d : α} (h : ∀ i, i < l.length → p (l.getD i d) = true) : l.all p = true := by
  rw [List.all_eq_true]
  intro x hx
  obtain ⟨i, hi, rfl⟩ := List.mem_iff_getElem.1 hx
  have := h i hi
  rwa [List.getD_eq_getElem?_getD, List.getElem?_eq_getElem hi] at this
theorem Cd.may_yes {a : Cd.An} (h1 : 0 ≤ a.code) (h2 : a.code ≤ 2147483647) (h3 : a.diags.length ≤ 64) (h4 : a.units.length ≤ 64) (h5 : a.bytes.length ≤ 2097152) (h6 : a.reads.length ≤ 65536) (h7 : Cd.long a.units = false)
    (h8 : ∀ i, i < a.diags.length → Cd.mayD (a.diags.getD i dg0) = true) (h9 : ∀ i, i < a.reads.length → Cd.mayR (a.reads.getD i se0) = true) : Cd.may a = true := by
  unfold Cd.may Cd.most
  rw [all_getD h8, all_getD h9, h7]
  simp; omega
theorem Cd.mayD_no {d : Cd.Dg} (h : 4096 < d.path.length ∨ d.why < 1 ∨ 2147483647 < d.why ∨ d.at_ < 0 ∨ 2147483647 < d.at_) : Cd.mayD d = false := by
  unfold Cd.mayD Cd.most
  rcases h with h | h | h | h | h
  · rw [decide_eq_false (show ¬ d.path.length ≤ 4096 by omega)]; simp
  · rw [decide_eq_false (show ¬ 1 ≤ d.why by omega)]; simp
  · rw [decide_eq_false (show ¬ d.why ≤ ((2147483647 : Nat) : Int) by omega)]; simp
  · rw [decide_eq_false (show ¬ 0 ≤ d.at_ by omega)]; simp
  · rw [decide_eq_false (show ¬ d.at_ ≤ ((2147483647 : Nat) : Int) by omega)]; simp
theorem Cd.mayD_yes {d : Cd.Dg} (h1 : d.path.length ≤ 4096) (h2 : 1 ≤ d.why) (h3 : d.why ≤ 2147483647) (h4 : 0 ≤ d.at_) (h5 : d.at_ ≤ 2147483647) : Cd.mayD d = true := by
  unfold Cd.mayD Cd.most
  simp; omega
theorem Cd.mayR_no {s : Cd.Se} (h : 4096 < s.path.length ∨ s.what < 0 ∨ 4 < s.what ∨ s.kind < 0 ∨ 3 < s.kind) : Cd.mayR s = false := by
  unfold Cd.mayR
  rcases h with h | h | h | h | h
  · rw [decide_eq_false (show ¬ s.path.length ≤ 4096 by omega)]; simp
  · rw [decide_eq_false (show ¬ 0 ≤ s.what by omega)]; simp
  · rw [decide_eq_false (show ¬ s.what ≤ 4 by omega)]; simp
  · rw [decide_eq_false (show ¬ 0 ≤ s.kind by omega)]; simp
  · rw [decide_eq_false (show ¬ s.kind ≤ 3 by omega)]; simp
theorem Cd.mayR_yes {s : Cd.Se} (h1 : s.path.length ≤ 4096) (h2 : 0 ≤ s.what) (h3 : s.what ≤ 4) (h4 : 0 ≤ s.kind) (h5 : s.kind ≤ 3) : Cd.mayR s = true := by
  unfold Cd.mayR
  simp; omega
theorem may_fn {h : Heap} {v : Value} {a : Cd.An} (r : RA h v a) (hu : ∀ s ∈ a.units, s.length ≤ 1000000000) :
    Fx Tryz.prog 14 #[v] h fun u h' => u = .bool (Cd.may a) ∧ ExtH h h' := by
  obtain ⟨dv, uv, rv, rfl, rd, ru, rr⟩ := r.cells
  obtain ⟨da, dc, hde, hdm⟩ := Vm.Src.form rd
  subst hde
  obtain ⟨ua, uc, hue, hum⟩ := ru.fix
  subst hue
  obtain ⟨ra, rc, hre, hrm⟩ := Vm.Src.form rr.1
  subst hre
  refine fn_of 108 Tryz.func14 rfl (by kernel_rfl) rfl (by simp) ?_
  refine cw_seq (cw_go rfl ?_)
  conv => whnf
  intro h1 n1
  conv => whnf
  have y1 : Blk h1 h.size [.int .i64 a.code, .slice da a.diags.length dc, .slice ua a.units.length uc, strv a.bytes, .slice ra a.reads.length rc] 27 := n1.blk
  have x1 := n1.ext
  have no : Cd.may a = false → Value.bool false = .bool (Cd.may a) ∧ ExtH h h1 := fun h => ⟨by rw [h], x1⟩
  refine cw_seq (cw_seq (cw_go rfl ?_))
  repeat' ((conv => whnf); first | refine ⟨_, Blk.rd ‹Blk _ _ _ _› rfl, ?_⟩ | refine ⟨_, rd_up ‹ExtH _ _› (Blk.rd ‹Blk _ _ _ _› rfl), ?_⟩ | refine And.intro ⟨by omega, by omega⟩ ?_ | refine say_i (by omega) ?_ | refine say_u8 (by omega) ?_ | refine say_u64 (by omega) ?_ | refine say_len ?_ | refine say_at ⟨by omega, by omega⟩ ?_ | refine say_to (by omega) (by omega) ?_ | refine say_from (by omega) (by omega) ?_ | refine say_t (by omega) ?_ | refine say_f (by omega) ?_ | refine say_d (fun _ => ?_) (fun _ => ?_))
  all_goals first
    | (conv => whnf
       refine cw_true rfl ?_
       refine cw_seq (cw_go rfl ?_)
       conv => whnf
       exact cw_ret (no (Cd.may_no (by omega))))
    | skip
  conv => whnf
  refine ⟨_, rfl, _, long_fn (ru.more x1) hu, ?_⟩
  rintro _ _ ⟨rfl, e0⟩
  replace e0 := e0.symm
  subst e0
  cases hlong : Cd.long a.units with
  | true =>
    conv => whnf
    refine cw_true rfl ?_
    refine cw_seq (cw_go rfl ?_)
    conv => whnf
    exact cw_ret (no (Cd.may_no (by simp [hlong])))
  | false =>
    conv => whnf
    repeat' ((conv => whnf); first | refine ⟨_, Blk.rd ‹Blk _ _ _ _› rfl, ?_⟩ | refine ⟨_, rd_up ‹ExtH _ _› (Blk.rd ‹Blk _ _ _ _› rfl), ?_⟩ | refine And.intro ⟨by omega, by omega⟩ ?_ | refine say_i (by omega) ?_ | refine say_u8 (by omega) ?_ | refine say_u64 (by omega) ?_ | refine say_len ?_ | refine say_at ⟨by omega, by omega⟩ ?_ | refine say_to (by omega) (by omega) ?_ | refine say_from (by omega) (by omega) ?_ | refine say_t (by omega) ?_ | refine say_f (by omega) ?_ | refine say_d (fun _ => ?_) (fun _ => ?_))
    all_goals first
      | (conv => whnf
         refine cw_true rfl ?_
         refine cw_seq (cw_go rfl ?_)
         conv => whnf
         exact cw_ret (no (Cd.may_no (by omega))))
      | skip
    conv => whnf
    refine cw_false rfl (cw_skip ?_)
    refine cw_seq (cw_seq (cw_go rfl ?_))
    conv => whnf
    refine ⟨_, y1.rd (o := 1) rfl, ?_⟩
    conv => whnf
    refine cw_block ?_
    refine cw_loop (S := Nat) (fun t => [(1, .pointer (some ⟨h.size, 0, none⟩)), (45, .slice da a.diags.length dc), (46, .int .i64 (a.diags.length : Int)), (47, .int .i64 (t : Int))])
      (fun t h' => ExtH h1 h' ∧ t ≤ a.diags.length ∧ ∀ i, i < t → Cd.mayD (a.diags.getD i dg0) = true) (fun t => a.diags.length - t) 0 ⟨rfl, rfl, rfl, rfl, trivial⟩ ⟨ExtH.refl _, Nat.zero_le _, fun i hi => by omega⟩ ?_
    rintro t h2 ⟨x2, ht, hallD⟩
    refine cw_seq (cw_go rfl ?_)
    conv => whnf
    refine say_d (fun hg => ?_) (fun hg => ?_)
    · refine cw_seq (cw_true rfl (cw_skip ?_))
      have htl : t < a.diags.length := by omega
      obtain ⟨b, o, rfl, hrd⟩ := (rd.more (x1.trans x2)).get t htl
      refine cw_seq (cw_block ?_)
      refine cw_seq (cw_go rfl ?_)
      conv => whnf
      refine And.intro ⟨by omega, by omega⟩ ?_
      refine ⟨dgC (a.diags.getD t dg0), rfl, hrd, ?_⟩
      conv => whnf
      intro h3 n3
      conv => whnf
      have y3 : Blk h3 h2.size (dgC dg0) 50 := n3.blk
      refine ⟨_, _, y3, ⟨by show 3 ≤ 3; decide, rfl, dgC1 _⟩, ?_⟩
      intro h4 w4
      have y4 : Blk h4 h2.size (dgC (a.diags.getD t dg0)) 50 := w4.new
      have z3 := n3.size
      have z2 := x2.size
      have x4 : ExtH h1 h4 := ⟨by have := w4.size; omega, fun b hb => by rw [w4.block b (by omega), n3.block b (by omega), x2.block b hb]⟩
      clear y1 y3
      refine cw_seq (cw_go rfl ?_)
      repeat' ((conv => whnf); first | refine ⟨_, Blk.rd ‹Blk _ _ _ _› rfl, ?_⟩ | refine ⟨_, rd_up ‹ExtH _ _› (Blk.rd ‹Blk _ _ _ _› rfl), ?_⟩ | refine And.intro ⟨by omega, by omega⟩ ?_ | refine say_i (by omega) ?_ | refine say_u8 (by omega) ?_ | refine say_u64 (by omega) ?_ | refine say_len ?_ | refine say_at ⟨by omega, by omega⟩ ?_ | refine say_to (by omega) (by omega) ?_ | refine say_from (by omega) (by omega) ?_ | refine say_t (by omega) ?_ | refine say_f (by omega) ?_ | refine say_d (fun _ => ?_) (fun _ => ?_))
      all_goals first
        | (conv => whnf
           refine cw_true rfl ?_
           refine cw_seq (cw_go rfl ?_)
           conv => whnf
           exact cw_ret ⟨by rw [Cd.may_noD htl (Cd.mayD_no (by omega))]; rfl, x1.trans x4⟩)
        | skip
      conv => whnf
      refine cw_false rfl (cw_skip ?_)
      refine cw_go rfl ?_
      conv => whnf
      refine say_i (by omega) ?_
      conv => whnf
      refine ⟨t + 1, ⟨rfl, rfl, rfl, by simp only []; rw [show ((t + 1 : Nat) : Int) = (t : Int) + 1 by push_cast; rfl]; rfl, trivial⟩, ⟨x4, by omega, fun i hi => ?_⟩, by show a.diags.length - (t + 1) < a.diags.length - t; omega⟩
      by_cases e : i = t
      · subst e; exact Cd.mayD_yes (by omega) (by omega) (by omega) (by omega) (by omega)
      · exact hallD i (by omega)
    · refine cw_seq (cw_false rfl (cw_exit ?_))
      have htl : t = a.diags.length := by omega
      subst htl
      refine cw_seq (cw_seq (cw_go rfl ?_))
      conv => whnf
      have y2 := x2.blk y1
      refine ⟨_, y2.rd (o := 4) rfl, ?_⟩
      conv => whnf
      refine cw_block ?_
      refine cw_loop (S := Nat) (fun t => [(1, .pointer (some ⟨h.size, 0, none⟩)), (77, .slice ra a.reads.length rc), (78, .int .i64 (a.reads.length : Int)), (79, .int .i64 (t : Int))])
        (fun t h' => ExtH h2 h' ∧ t ≤ a.reads.length ∧ ∀ i, i < t → Cd.mayR (a.reads.getD i se0) = true) (fun t => a.reads.length - t) 0 ⟨rfl, rfl, rfl, rfl, trivial⟩ ⟨ExtH.refl _, Nat.zero_le _, fun i hi => by omega⟩ ?_
      rintro t h5 ⟨x5, ht, hallR⟩
      refine cw_seq (cw_go rfl ?_)
      conv => whnf
      refine say_d (fun hg => ?_) (fun hg => ?_)
      · refine cw_seq (cw_true rfl (cw_skip ?_))
        have htl : t < a.reads.length := by omega
        obtain ⟨b, o, rfl, hrd⟩ := (rr.more ((x1.trans x2).trans x5)).get t htl
        refine cw_seq (cw_block ?_)
        refine cw_seq (cw_go rfl ?_)
        conv => whnf
        refine And.intro ⟨by omega, by omega⟩ ?_
        have hL : (seC (a.reads.getD t se0)).length = 35 := seC_len (rr.2 _ (by rw [List.getD_eq_getElem?_getD, List.getElem?_eq_getElem htl]; exact List.getElem_mem htl))
        refine ⟨seC (a.reads.getD t se0), by show _ = 35; exact hL, hrd, ?_⟩
        conv => whnf
        intro h3 n3
        conv => whnf
        have y3 : Blk h3 h5.size (seC se0) 55 := n3.blk
        refine ⟨_, _, y3, ⟨by show 0 + (seC _).length ≤ 35; rw [hL]; decide, by show (seC _).length = 35; exact hL, seC1 _⟩, ?_⟩
        intro h4 w4
        have y4 : Blk h4 h5.size (seC (a.reads.getD t se0)) 55 := (w4.cast (splice_all (by show (seC _).length = 35; exact hL))).new
        have z3 := n3.size
        have z2 := x5.size
        have x4 : ExtH h2 h4 := ⟨by have := w4.size; omega, fun b hb => by rw [w4.block b (by omega), n3.block b (by omega), x5.block b hb]⟩
        clear y1 y3
        refine cw_seq (cw_go rfl ?_)
        repeat' ((conv => whnf); first | refine ⟨_, Blk.rd ‹Blk _ _ _ _› rfl, ?_⟩ | refine ⟨_, rd_up ‹ExtH _ _› (Blk.rd ‹Blk _ _ _ _› rfl), ?_⟩ | refine And.intro ⟨by omega, by omega⟩ ?_ | refine say_i (by omega) ?_ | refine say_u8 (by omega) ?_ | refine say_u64 (by omega) ?_ | refine say_len ?_ | refine say_at ⟨by omega, by omega⟩ ?_ | refine say_to (by omega) (by omega) ?_ | refine say_from (by omega) (by omega) ?_ | refine say_t (by omega) ?_ | refine say_f (by omega) ?_ | refine say_d (fun _ => ?_) (fun _ => ?_))
        all_goals first
          | (conv => whnf
             refine cw_true rfl ?_
             refine cw_seq (cw_go rfl ?_)
             conv => whnf
             exact cw_ret ⟨by rw [Cd.may_noR htl (Cd.mayR_no (by omega))]; rfl, (x1.trans x2).trans x4⟩)
          | skip
        conv => whnf
        refine cw_false rfl (cw_skip ?_)
        refine cw_go rfl ?_
        conv => whnf
        refine say_i (by omega) ?_
        conv => whnf
        refine ⟨t + 1, ⟨rfl, rfl, rfl, by simp only []; rw [show ((t + 1 : Nat) : Int) = (t : Int) + 1 by push_cast; rfl]; rfl, trivial⟩, ⟨x4, by omega, fun i hi => ?_⟩, by show a.reads.length - (t + 1) < a.reads.length - t; omega⟩
        by_cases e : i = t
        · subst e; exact Cd.mayR_yes (by omega) (by omega) (by omega) (by omega) (by omega)
        · exact hallR i (by omega)
      · refine cw_seq (cw_false rfl (cw_exit ?_))
        have htl : t = a.reads.length := by omega
        subst htl
        refine cw_seq (cw_go rfl ?_)
        conv => whnf
        refine cw_ret ⟨?_, (x1.trans x2).trans x5⟩
        rw [Cd.may_yes (by omega) (by omega) (by omega) (by omega) (by omega) (by omega) hlong hallD hallR]
        rfl
end Go.Proofs.YtkdmpdbbcgdfkaaGreatDoor
namespace Go.Proofs.YtkdmpdbbcgdfkaaGreatDoor
open Go Vm
set_option maxRecDepth 100000
set_option linter.unusedVariables false
set_option linter.unusedSimpArgs false
theorem rnum_fn (n k : Int) (h : Heap) : Fx Tryz.prog 48 #[.int .i64 n, .int .i64 k] h fun u h' => u = .bool (decide (k ≤ n ∧ n ≤ 2147483647)) ∧ h' = h := by
  refine fn_of 12 Tryz.func48 rfl (by kernel_rfl) rfl (by simp) ?_
  refine cw_seq (cw_go rfl ?_)
  conv => whnf
  refine cw_seq (cw_go rfl ?_)
  conv => whnf
  refine say_d (fun hg => ?_) (fun hg => ?_)
  · conv => whnf
    refine say_d (fun hg2 => ?_) (fun hg2 => ?_)
    · conv => whnf
      exact cw_ret ⟨by rw [decide_eq_true ⟨by omega, by omega⟩]; rfl, rfl⟩
    · conv => whnf
      exact cw_ret ⟨by rw [decide_eq_false (by omega)]; rfl, rfl⟩
  · conv => whnf
    exact cw_ret ⟨by rw [decide_eq_false (by omega)]; rfl, rfl⟩
theorem rmay23_fn {h : Heap} {v : Value} {a : Cd.An} (r : RA h v a) (hu : ∀ s ∈ a.units, s.length ≤ 1000000000) :
    Fx Tryz.prog 18 #[v] h fun u h' => u = .bool (Cd.may a) ∧ ExtH h h' := by
  obtain ⟨dv, uv, rv, rfl, rd, ru, rr⟩ := r.cells
  obtain ⟨da, dc, hde, hdm⟩ := Vm.Src.form rd
  subst hde
  obtain ⟨ua, uc, hue, hum⟩ := ru.fix
  subst hue
  obtain ⟨ra, rc, hre, hrm⟩ := Vm.Src.form rr.1
  subst hre
  refine fn_of 114 Tryz.func18 rfl (by kernel_rfl) rfl (by simp) ?_
  refine cw_seq (cw_go rfl ?_)
  conv => whnf
  intro h1 n1
  conv => whnf
  have y1 : Blk h1 h.size [.int .i64 a.code, .slice da a.diags.length dc, .slice ua a.units.length uc, strv a.bytes, .slice ra a.reads.length rc] 27 := n1.blk
  have x1 := n1.ext
  have no : Cd.may a = false → Value.bool false = .bool (Cd.may a) ∧ ExtH h h1 := fun h => ⟨by rw [h], x1⟩
  refine cw_seq (cw_seq (cw_go rfl ?_))
  conv => whnf
  refine ⟨_, y1.rd (o := 0) rfl, ?_⟩
  conv => whnf
  refine ⟨_, rfl, _, rnum_fn a.code 0 _, ?_⟩
  rintro _ _ ⟨rfl, e0⟩
  replace e0 := e0.symm
  subst e0
  by_cases hcode : 0 ≤ a.code ∧ a.code ≤ 2147483647
  · rw [decide_eq_true hcode]
    conv => whnf
    repeat' ((conv => whnf); first | refine ⟨_, Blk.rd ‹Blk _ _ _ _› rfl, ?_⟩ | refine ⟨_, rd_up ‹ExtH _ _› (Blk.rd ‹Blk _ _ _ _› rfl), ?_⟩ | refine And.intro ⟨by omega, by omega⟩ ?_ | refine say_i (by omega) ?_ | refine say_u8 (by omega) ?_ | refine say_u64 (by omega) ?_ | refine say_len ?_ | refine say_at ⟨by omega, by omega⟩ ?_ | refine say_to (by omega) (by omega) ?_ | refine say_from (by omega) (by omega) ?_ | refine say_t (by omega) ?_ | refine say_f (by omega) ?_ | refine say_d (fun _ => ?_) (fun _ => ?_))
    all_goals first
      | (conv => whnf
         refine cw_true rfl ?_
         refine cw_seq (cw_go rfl ?_)
         conv => whnf
         exact cw_ret (no (Cd.may_no (by omega))))
      | skip
    conv => whnf
    refine cw_false rfl (cw_skip ?_)
    refine cw_seq (cw_seq (cw_go rfl ?_))
    conv => whnf
    refine cw_block ?_
    refine cw_loop (S := Nat) (fun t => [(1, .pointer (some ⟨h.size, 0, none⟩)), (3, .int .i64 (t : Int))])
      (fun t h' => ExtH h1 h' ∧ t ≤ a.diags.length ∧ ∀ i, i < t → Cd.mayD (a.diags.getD i dg0) = true) (fun t => a.diags.length - t) 0 ⟨rfl, rfl, trivial⟩ ⟨ExtH.refl _, Nat.zero_le _, fun i hi => by omega⟩ ?_
    rintro t h2 ⟨x2, ht, hallD⟩
    have yb := x2.blk y1
    refine cw_seq (cw_seq (cw_go rfl ?_))
    conv => whnf
    refine ⟨_, yb.rd (o := 1) rfl, ?_⟩
    conv => whnf
    refine say_d (fun hg => ?_) (fun hg => ?_)
    · refine cw_true rfl (cw_skip ?_)
      have htl : t < a.diags.length := by omega
      refine cw_seq (cw_block ?_)
      refine cw_seq (cw_go rfl ?_)
      conv => whnf
      refine ⟨_, yb.rd (o := 1) rfl, ?_⟩
      conv => whnf
      obtain ⟨b, o, rfl, hrd⟩ := (rd.more (x1.trans x2)).get t htl
      refine And.intro ⟨by omega, by omega⟩ ?_
      refine ⟨dgC (a.diags.getD t dg0), rfl, hrd, ?_⟩
      conv => whnf
      intro h3 n3
      conv => whnf
      have y3 : Blk h3 h2.size (dgC dg0) 50 := n3.blk
      refine ⟨_, _, y3, ⟨by show 3 ≤ 3; decide, rfl, dgC1 _⟩, ?_⟩
      intro h4 w4
      have y4 : Blk h4 h2.size (dgC (a.diags.getD t dg0)) 50 := w4.new
      have z3 := n3.size
      have z2 := x2.size
      have x4 : ExtH h1 h4 := ⟨by have := w4.size; omega, fun b hb => by rw [w4.block b (by omega), n3.block b (by omega), x2.block b hb]⟩
      clear y1 y3 yb
      refine cw_seq (cw_go rfl ?_)
      repeat' ((conv => whnf); first | refine ⟨_, Blk.rd ‹Blk _ _ _ _› rfl, ?_⟩ | refine ⟨_, rd_up ‹ExtH _ _› (Blk.rd ‹Blk _ _ _ _› rfl), ?_⟩ | refine And.intro ⟨by omega, by omega⟩ ?_ | refine say_i (by omega) ?_ | refine say_u8 (by omega) ?_ | refine say_u64 (by omega) ?_ | refine say_len ?_ | refine say_at ⟨by omega, by omega⟩ ?_ | refine say_to (by omega) (by omega) ?_ | refine say_from (by omega) (by omega) ?_ | refine say_t (by omega) ?_ | refine say_f (by omega) ?_ | refine say_d (fun _ => ?_) (fun _ => ?_))
      all_goals first
        | (conv => whnf
           refine cw_true rfl ?_
           refine cw_seq (cw_go rfl ?_)
           conv => whnf
           exact cw_ret ⟨by rw [Cd.may_noD htl (Cd.mayD_no (by omega))]; rfl, x1.trans x4⟩)
        | skip
      conv => whnf
      refine ⟨_, rfl, _, rnum_fn (a.diags.getD t dg0).why 1 _, ?_⟩
      rintro _ _ ⟨rfl, e0⟩
      replace e0 := e0.symm
      subst e0
      by_cases hwhy : 1 ≤ (a.diags.getD t dg0).why ∧ (a.diags.getD t dg0).why ≤ 2147483647
      case' neg =>
        rw [decide_eq_false hwhy]
        conv => whnf
        refine cw_true rfl ?_
        refine cw_seq (cw_go rfl ?_)
        conv => whnf
        exact cw_ret ⟨by rw [Cd.may_noD htl (Cd.mayD_no (by omega))]; rfl, x1.trans x4⟩
      rw [decide_eq_true hwhy]
      conv => whnf
      refine ⟨_, y4.rd (o := 2) rfl, ?_⟩
      conv => whnf
      refine ⟨_, rfl, _, rnum_fn (a.diags.getD t dg0).at_ 0 _, ?_⟩
      rintro _ _ ⟨rfl, e0⟩
      replace e0 := e0.symm
      subst e0
      by_cases hat : 0 ≤ (a.diags.getD t dg0).at_ ∧ (a.diags.getD t dg0).at_ ≤ 2147483647
      case' neg =>
        rw [decide_eq_false hat]
        conv => whnf
        refine cw_true rfl ?_
        refine cw_seq (cw_go rfl ?_)
        conv => whnf
        exact cw_ret ⟨by rw [Cd.may_noD htl (Cd.mayD_no (by omega))]; rfl, x1.trans x4⟩
      rw [decide_eq_true hat]
      conv => whnf
      refine cw_false rfl (cw_skip ?_)
      refine cw_go rfl ?_
      conv => whnf
      refine say_i (by omega) ?_
      conv => whnf
      refine ⟨t + 1, ⟨rfl, by simp only []; rw [show ((t + 1 : Nat) : Int) = (t : Int) + 1 by push_cast; rfl]; rfl, trivial⟩, ⟨x4, by omega, fun i hi => ?_⟩, by show a.diags.length - (t + 1) < a.diags.length - t; omega⟩
      by_cases e : i = t
      · subst e; exact Cd.mayD_yes (by omega) (by omega) (by omega) (by omega) (by omega)
      · exact hallD i (by omega)
    · refine cw_false rfl (cw_exit ?_)
      have htl : t = a.diags.length := by omega
      subst htl
      have y2 := x2.blk y1
      refine cw_seq (cw_seq (cw_go rfl ?_))
      conv => whnf
      refine cw_block ?_
      refine cw_loop (S := Nat) (fun t => [(1, .pointer (some ⟨h.size, 0, none⟩)), (5, .int .i64 (t : Int))])
        (fun t h' => ExtH h2 h' ∧ t ≤ a.units.length ∧ ∀ i, i < t → (a.units.getD i []).length ≤ 4096) (fun t => a.units.length - t) 0 ⟨rfl, rfl, trivial⟩ ⟨ExtH.refl _, Nat.zero_le _, fun i hi => by omega⟩ ?_
      rintro t h5 ⟨x5, ht, hallU⟩
      have yb := x5.blk y2
      refine cw_seq (cw_seq (cw_go rfl ?_))
      conv => whnf
      refine ⟨_, yb.rd (o := 2) rfl, ?_⟩
      conv => whnf
      refine say_d (fun hg => ?_) (fun hg => ?_)
      · refine cw_true rfl (cw_skip ?_)
        have htl : t < a.units.length := by omega
        refine cw_seq (cw_block ?_)
        refine cw_seq (cw_go rfl ?_)
        conv => whnf
        refine ⟨_, yb.rd (o := 2) rfl, ?_⟩
        conv => whnf
        obtain ⟨b, o, rfl, hrd⟩ := (ru.more ((x1.trans x2).trans x5)).get t htl
        refine And.intro ⟨by omega, by omega⟩ ?_
        refine ⟨_, hrd, ?_⟩
        conv => whnf
        refine say_len ?_
        conv => whnf
        by_cases hbig : (a.units.getD t []).length > 4096
        case' pos =>
          refine say_t (by omega) ?_
          conv => whnf
          refine cw_true rfl ?_
          refine cw_seq (cw_go rfl ?_)
          conv => whnf
          refine cw_ret ⟨?_, (x1.trans x2).trans x5⟩
          rw [Cd.may_no (.inr (.inr (.inr (.inr (.inr (.inr ?_))))))]
          · rfl
          · unfold Cd.long
            rw [List.any_eq_true]
            exact ⟨a.units.getD t [], by rw [List.getD_eq_getElem?_getD, List.getElem?_eq_getElem htl]; exact List.getElem_mem htl, by simpa using hbig⟩
        refine say_f (by omega) ?_
        conv => whnf
        refine cw_false rfl (cw_skip ?_)
        refine cw_go rfl ?_
        conv => whnf
        refine say_i (by omega) ?_
        conv => whnf
        refine ⟨t + 1, ⟨rfl, by simp only []; rw [show ((t + 1 : Nat) : Int) = (t : Int) + 1 by push_cast; rfl]; rfl, trivial⟩, ⟨x5, by omega, fun i hi => ?_⟩, by show a.units.length - (t + 1) < a.units.length - t; omega⟩
        by_cases e : i = t
        · subst e; omega
        · exact hallU i (by omega)
      · refine cw_false rfl (cw_exit ?_)
        have htl : t = a.units.length := by omega
        subst htl
        have y5 := x5.blk y2
        refine cw_seq (cw_seq (cw_go rfl ?_))
        conv => whnf
        refine cw_block ?_
        refine cw_loop (S := Nat) (fun t => [(1, .pointer (some ⟨h.size, 0, none⟩)), (6, .int .i64 (t : Int))])
          (fun t h' => ExtH h5 h' ∧ t ≤ a.reads.length ∧ ∀ i, i < t → Cd.mayR (a.reads.getD i se0) = true) (fun t => a.reads.length - t) 0 ⟨rfl, rfl, trivial⟩ ⟨ExtH.refl _, Nat.zero_le _, fun i hi => by omega⟩ ?_
        rintro t h6 ⟨x6, ht, hallR⟩
        have yb := x6.blk y5
        refine cw_seq (cw_seq (cw_go rfl ?_))
        conv => whnf
        refine ⟨_, yb.rd (o := 4) rfl, ?_⟩
        conv => whnf
        refine say_d (fun hg => ?_) (fun hg => ?_)
        · refine cw_true rfl (cw_skip ?_)
          have htl : t < a.reads.length := by omega
          refine cw_seq (cw_block ?_)
          refine cw_seq (cw_go rfl ?_)
          conv => whnf
          refine ⟨_, yb.rd (o := 4) rfl, ?_⟩
          conv => whnf
          obtain ⟨b, o, rfl, hrd⟩ := (rr.more (((x1.trans x2).trans x5).trans x6)).get t htl
          refine And.intro ⟨by omega, by omega⟩ ?_
          have hL : (seC (a.reads.getD t se0)).length = 35 := seC_len (rr.2 _ (by rw [List.getD_eq_getElem?_getD, List.getElem?_eq_getElem htl]; exact List.getElem_mem htl))
          refine ⟨seC (a.reads.getD t se0), by show _ = 35; exact hL, hrd, ?_⟩
          conv => whnf
          intro h3 n3
          conv => whnf
          have y3 : Blk h3 h6.size (seC se0) 55 := n3.blk
          refine ⟨_, _, y3, ⟨by show 0 + (seC _).length ≤ 35; rw [hL]; decide, by show (seC _).length = 35; exact hL, seC1 _⟩, ?_⟩
          intro h4 w4
          have y4 : Blk h4 h6.size (seC (a.reads.getD t se0)) 55 := (w4.cast (splice_all (by show (seC _).length = 35; exact hL))).new
          have z3 := n3.size
          have z2 := x6.size
          have x4 : ExtH h5 h4 := ⟨by have := w4.size; omega, fun b hb => by rw [w4.block b (by omega), n3.block b (by omega), x6.block b hb]⟩
          clear y1 y2 y3 y5 yb
          refine cw_seq (cw_go rfl ?_)
          repeat' ((conv => whnf); first | refine ⟨_, Blk.rd ‹Blk _ _ _ _› rfl, ?_⟩ | refine ⟨_, rd_up ‹ExtH _ _› (Blk.rd ‹Blk _ _ _ _› rfl), ?_⟩ | refine And.intro ⟨by omega, by omega⟩ ?_ | refine say_i (by omega) ?_ | refine say_u8 (by omega) ?_ | refine say_u64 (by omega) ?_ | refine say_len ?_ | refine say_at ⟨by omega, by omega⟩ ?_ | refine say_to (by omega) (by omega) ?_ | refine say_from (by omega) (by omega) ?_ | refine say_t (by omega) ?_ | refine say_f (by omega) ?_ | refine say_d (fun _ => ?_) (fun _ => ?_))
          all_goals first
            | (conv => whnf
               refine cw_true rfl ?_
               refine cw_seq (cw_go rfl ?_)
               conv => whnf
               exact cw_ret ⟨by rw [Cd.may_noR htl (Cd.mayR_no (by omega))]; rfl, ((x1.trans x2).trans x5).trans x4⟩)
            | skip
          conv => whnf
          refine cw_false rfl (cw_skip ?_)
          refine cw_go rfl ?_
          conv => whnf
          refine say_i (by omega) ?_
          conv => whnf
          refine ⟨t + 1, ⟨rfl, by simp only []; rw [show ((t + 1 : Nat) : Int) = (t : Int) + 1 by push_cast; rfl]; rfl, trivial⟩, ⟨x4, by omega, fun i hi => ?_⟩, by show a.reads.length - (t + 1) < a.reads.length - t; omega⟩
          by_cases e : i = t
          · subst e; exact Cd.mayR_yes (by omega) (by omega) (by omega) (by omega) (by omega)
          · exact hallR i (by omega)
        · refine cw_false rfl (cw_exit ?_)
          have htl : t = a.reads.length := by omega
          subst htl
          refine cw_seq (cw_go rfl ?_)
          conv => whnf
          refine cw_ret ⟨?_, ((x1.trans x2).trans x5).trans x6⟩
          have hlong : Cd.long a.units = false := by
            unfold Cd.long
            rw [List.any_eq_false]
            intro s hs
            obtain ⟨i, hi, rfl⟩ := List.mem_iff_getElem.1 hs
            have := hallU i hi
            rw [List.getD_eq_getElem?_getD, List.getElem?_eq_getElem hi] at this
            simpa using this
          rw [Cd.may_yes (by omega) (by omega) (by omega) (by omega) (by omega) (by omega) hlong hallD hallR]
          rfl
  · rw [decide_eq_false hcode]
    conv => whnf
    refine cw_true rfl ?_
    refine cw_seq (cw_go rfl ?_)
    conv => whnf
    exact cw_ret (no (Cd.may_no (by omega)))
end Go.Proofs.YtkdmpdbbcgdfkaaGreatDoor
namespace Go.Proofs.YtkdmpdbbcgdfkaaGreatDoor
open Go Vm
set_option maxRecDepth 100000
set_option linter.unusedVariables false
set_option linter.unusedSimpArgs false
theorem rshort_fn {h : Heap} {v : Value} {l : List UInt8} (r : RB h v l) (hl : l.length ≤ 1000000000) {n : Nat} (hn : n ≤ l.length) :
    Fx Tryz.prog 99 #[v, .int .i64 (n : Int)] h fun u h' => u = .tuple #[.int .u64 ((Cd.numAt l n).1 : Int), .int .i64 ((Cd.numAt l n).2.1 : Int), .int .i64 ((Cd.numAt l n).2.2 : Int)] ∧ h' = h := by
  obtain ⟨sa, sc, hse, _⟩ := Vm.Src.form r
  subst hse
  generalize hres : Cd.numAt l n = res
  refine fn_of 51 Tryz.func99 rfl (by kernel_rfl) rfl (by simp) ?_
  refine cw_seq (cw_go rfl ?_)
  conv => whnf
  refine cw_seq (cw_go rfl ?_)
  conv => whnf
  refine cw_seq (cw_seq (cw_go rfl ?_))
  conv => whnf
  refine cw_block ?_
  refine cw_loop (S := Nat × Nat) (fun s => [(0, .slice sa l.length sc), (1, .int .i64 (n : Int)), (7, .int .u64 (s.2 : Int)), (8, .int .i64 (s.1 : Int))])
    (fun s h' => s.1 ≤ 9 ∧ s.2 < 2 ^ (7 * s.1) ∧ n + s.1 ≤ l.length ∧ Cd.num (l.drop (n + s.1)) s.1 s.2 = res ∧ h' = h) (fun s => 10 - s.1) (0, 0) ⟨rfl, rfl, rfl, rfl, trivial⟩ ⟨by show 0 ≤ 9; decide, by show 0 < 2 ^ 0; decide, by show n + 0 ≤ _; omega, hres, rfl⟩ ?_
  rintro ⟨k, acc⟩ _ ⟨hk, hacc, hnk, hnum, rfl⟩
  replace hk : k ≤ 9 := hk
  replace hacc : acc < 2 ^ (7 * k) := hacc
  replace hnk : n + k ≤ l.length := hnk
  replace hnum : Cd.num (l.drop (n + k)) k acc = res := hnum
  refine cw_seq (cw_seq (cw_go rfl ?_))
  conv => whnf
  refine say_t (by show (k : Int) < 10; omega) ?_
  refine cw_true rfl (cw_skip ?_)
  refine cw_seq (cw_block ?_)
  refine cw_seq (cw_seq (cw_go rfl ?_))
  conv => whnf
  refine say_i (by omega) ?_
  conv => whnf
  by_cases hlt : n + k < l.length
  · refine say_f (by omega) ?_
    conv => whnf
    refine cw_false rfl (cw_skip ?_)
    rw [drop_cons hlt] at hnum
    generalize hcc : l.getD (n + k) 0 = c at hnum
    refine cw_seq (cw_go rfl ?_)
    conv => whnf
    refine say_i (by omega) ?_
    conv => whnf
    obtain ⟨b, o, cp, he, hr⟩ := r.get (n + k) hlt
    injection he with he1 _ he2
    subst he1 he2
    refine And.intro ⟨by omega, by omega⟩ ?_
    conv => whnf
    refine ⟨_, by rwa [show o + (n + k) = o + ((n : Int) + (k : Int)).toNat by omega] at hr, ?_⟩
    rw [hcc]
    have hc := c.toNat_lt
    conv => whnf
    refine cw_seq (cw_seq (cw_go rfl ?_))
    conv => whnf
    by_cases hA : k = 9 ∧ c.toNat > 1
    · refine say_t (by show (k : Int) = 9; omega) ?_
      conv => whnf
      refine say_t (by omega) ?_
      conv => whnf
      refine cw_true rfl ?_
      refine cw_seq (cw_go rfl ?_)
      conv => whnf
      refine cw_ret ⟨?_, rfl⟩
      rw [Cd.num, if_pos hA] at hnum
      rw [← hnum]
      rfl
    · have h9 : k = 9 → c.toNat ≤ 1 := fun e => by
        have := fun h => hA ⟨e, h⟩
        omega
      rw [Cd.num, if_neg hA] at hnum
      obtain ⟨b1, b2⟩ := acc_step hacc hk h9
      by_cases e9 : k = 9
      case' pos =>
        refine say_t (by show (k : Int) = 9; omega) ?_
        conv => whnf
        refine say_f (by have := h9 e9; omega) ?_
        conv => whnf
        refine cw_false rfl (cw_skip ?_)
      case' neg =>
        refine say_f (by show ¬ (k : Int) = 9; omega) ?_
        conv => whnf
        refine cw_false rfl (cw_skip ?_)
      all_goals
        refine cw_seq (cw_go rfl ?_)
        conv => whnf
        refine And.intro (by decide) ?_
        refine say_w (y := ((c.toNat % 128 : Nat) : Int)) (by show (c.toNat : Int).tmod 128 = _; rw [Int.tmod_eq_emod_of_nonneg (by omega)]; omega) ?_
        conv => whnf
        refine say_u64 (by omega) ?_
        conv => whnf
        refine say_i (x := 7 * (k : Int)) (by omega) ?_
        conv => whnf
        refine And.intro (by omega) ?_
        refine say_w (y := ((c.toNat % 128 * 2 ^ (7 * k) : Nat) : Int)) (by
          have := Cd.shl64 (c.toNat % 128) (7 * k) b1 (by omega)
          rw [show ((7 * k : Nat) : Int) = 7 * (k : Int) by push_cast; rfl] at this
          exact this) ?_
        conv => whnf
        refine say_w (y := ((acc + c.toNat % 128 * 2 ^ (7 * k) : Nat) : Int)) (by rw [IntKind.wrap_u64]; omega) ?_
        conv => whnf
        refine cw_seq (cw_go rfl ?_)
        conv => whnf
        by_cases h128 : c.toNat < 128
        · refine say_t (by omega) ?_
          conv => whnf
          refine cw_true rfl ?_
          rw [if_pos h128] at hnum
          have hm : c.toNat % 128 = c.toNat := Nat.mod_eq_of_lt h128
          refine cw_seq (cw_seq (cw_go rfl ?_))
          conv => whnf
          by_cases hB : c.toNat = 0 ∧ k > 0
          · refine say_t (by omega) ?_
            conv => whnf
            refine say_t (by show (k : Int) > 0; omega) ?_
            conv => whnf
            refine cw_true rfl ?_
            refine cw_seq (cw_go rfl ?_)
            conv => whnf
            refine cw_ret ⟨?_, rfl⟩
            rw [if_pos hB] at hnum
            rw [← hnum]
            rfl
          · rw [if_neg hB] at hnum
            by_cases hC : c.toNat = 0
            case' pos =>
              refine say_t (by omega) ?_
              conv => whnf
              refine say_f (by show ¬ (k : Int) > 0; have := fun h => hB ⟨hC, h⟩; omega) ?_
              conv => whnf
              refine cw_false rfl (cw_skip ?_)
            case' neg =>
              refine say_f (by omega) ?_
              conv => whnf
              refine cw_false rfl (cw_skip ?_)
            all_goals
              refine cw_seq (cw_go rfl ?_)
              conv => whnf
              refine say_i (x := (k : Int) + 1) (by omega) ?_
              conv => whnf
              refine cw_ret ⟨?_, rfl⟩
              rw [← hnum, hm]
              rfl
        · refine say_f (by omega) ?_
          conv => whnf
          refine cw_false rfl (cw_skip ?_)
          rw [if_neg h128] at hnum
          refine cw_go rfl ?_
          conv => whnf
          refine say_i (x := (k : Int) + 1) (by omega) ?_
          have hk8 : k + 1 ≤ 9 := by
            rcases Nat.lt_or_ge k 9 with h | h
            · omega
            · have := h9 (by omega); omega
          refine ⟨(k + 1, acc + c.toNat % 128 * 2 ^ (7 * k)), ⟨rfl, rfl, rfl, rfl, trivial⟩, ⟨hk8, ?_, by show n + (k + 1) ≤ _; omega, ?_, rfl⟩, by show 10 - (k + 1) < 10 - k; omega⟩
          · show acc + c.toNat % 128 * 2 ^ (7 * k) < 2 ^ (7 * (k + 1))
            have h1 : c.toNat % 128 * 2 ^ (7 * k) ≤ 127 * 2 ^ (7 * k) := Nat.mul_le_mul_right _ (by omega)
            have h3 : (2 : Nat) ^ (7 * (k + 1)) = 128 * 2 ^ (7 * k) := by rw [show 7 * (k + 1) = 7 * k + 7 by omega, Nat.pow_add]; omega
            omega
          · show Cd.num (l.drop (n + (k + 1))) (k + 1) (acc + c.toNat % 128 * 2 ^ (7 * k)) = res
            exact hnum
  · refine say_t (by omega) ?_
    conv => whnf
    refine cw_true rfl ?_
    refine cw_seq (cw_go rfl ?_)
    conv => whnf
    refine cw_ret ⟨?_, rfl⟩
    rw [List.drop_eq_nil_of_le (by omega)] at hnum
    rw [← hnum]
    rfl
end Go.Proofs.YtkdmpdbbcgdfkaaGreatDoor
