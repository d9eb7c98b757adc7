/-
  `==` of structures and arrays of plain values (numbers, truths, texts): their literals are the same.
  The program's reader of bytes.
  The program's reader of a short number.
  The program's reader: where it stands; Count.
  The program's reader: a text at a place.
  The program's reader: so many bytes.
  The program's reader: its fault.
  The program's reader: any number.
-/
import Derived.Test.YtkdmpdbbcgdfkaaGreatDoorJ7
import Derived.DeepKeys
import Derived.Test.YtkdmpdbbcgdfkaaGreatDoorJ8
namespace Go.Proofs.YtkdmpdbbcgdfkaaGreatDoor.Vm
open Go
theorem lits_run {P : Program} {t : TypeId} {m D D' : Nat} (hk : P.keyTypeAt m t = true) (hm : m ≤ 10000) {x y : Value} {lx ly : List Lit} (fx : x.formed P t = true) (fy : y.formed P t = true)
    (hx : P.keyLits D t x.cells.toList = some lx) (hy : P.keyLits D' t y.cells.toList = some ly) {b : Bool} (hb : b = true ↔ lx = ly) (w : World) : (Op.equalIn 10000 t x y).run P w = .ok b w := by
  obtain ⟨r, h1, h2⟩ := run_equalIn_deep (P := P) (10000 - m) m t hk w D D' x y lx ly fx fy hx hy
  rw [show 10000 - m + m = 10000 by omega] at h1
  have : r = b := by
    cases r <;> cases b <;> simp_all
  rw [h1, this]
/-- a == b -/
theorem eql_lits {P : Program} {t : TypeId} {m D D' : Nat} (hk : P.keyTypeAt m t = true) (hm : m ≤ 10000) (hg : P.eqGuardType P.depth t = false) {xs ys : Array Value} {lx ly : List Lit} (fx : (Value.agg xs).formed P t = true) (fy : (Value.agg ys).formed P t = true)
    (hx : P.keyLits D t xs.toList = some lx) (hy : P.keyLits D' t ys.toList = some ly) {b : Bool} (hb : b = true ↔ lx = ly) (xo yo : Operand) (w : World) :
    (do eqGuard .eql t xo yo (.agg xs) (.agg ys); binOp .eql t (.agg xs) (.agg ys) : Sem Value).run P w = .ok (.bool b) w := by
  rw [Sem.run_bind, run_eqGuard_agg _ _ _ _ _ _ _ hg, Result.andThen_ok, run_eql_struct, lits_run hk hm fx fy hx hy hb, Result.andThen_ok]
/-- a != b -/
theorem neq_lits {P : Program} {t : TypeId} {m D D' : Nat} (hk : P.keyTypeAt m t = true) (hm : m ≤ 10000) (hg : P.eqGuardType P.depth t = false) {xs ys : Array Value} {lx ly : List Lit} (fx : (Value.agg xs).formed P t = true) (fy : (Value.agg ys).formed P t = true)
    (hx : P.keyLits D t xs.toList = some lx) (hy : P.keyLits D' t ys.toList = some ly) {b : Bool} (hb : b = true ↔ lx = ly) (xo yo : Operand) (w : World) :
    (do eqGuard .neq t xo yo (.agg xs) (.agg ys); binOp .neq t (.agg xs) (.agg ys) : Sem Value).run P w = .ok (.bool !b) w := by
  rw [Sem.run_bind, run_eqGuard_agg _ _ _ _ _ _ _ hg, Result.andThen_ok, run_neq_struct, lits_run hk hm fx fy hx hy hb, Result.andThen_ok]
end Go.Proofs.YtkdmpdbbcgdfkaaGreatDoor.Vm
namespace Go.Proofs.YtkdmpdbbcgdfkaaGreatDoor
open Go Vm
set_option maxRecDepth 100000
set_option linter.unusedVariables false
set_option linter.unusedSimpArgs false
/-- a fault's cells -/
def fltC (e a : Int) : List Value := [.int .i64 e, .int .i64 a]
theorem flt_lits {e a : Int} (he : (Lit.int .i64 e).wf = true) (ha : (Lit.int .i64 a).wf = true) : Tryz.prog.keyLits 3 38 (fltC e a) = some [.int .i64 e, .int .i64 a] := by
  have h1 : Tryz.prog.keyLits 2 22 [.int .i64 e] = some [.int .i64 e] := by
    show (if IntKind.i64 = IntKind.i64 ∧ (Lit.int .i64 e).wf = true then some [Lit.int .i64 e] else none) = _
    rw [if_pos ⟨rfl, he⟩]
  have h2 : Tryz.prog.keyLits 2 3 [.int .i64 a] = some [.int .i64 a] := by
    show (if IntKind.i64 = IntKind.i64 ∧ (Lit.int .i64 a).wf = true then some [Lit.int .i64 a] else none) = _
    rw [if_pos ⟨rfl, ha⟩]
  have hu : Tryz.prog.underlying 38 = some (.struct (Tryz.prog.fieldsOf 38)) := by kernel_rfl
  have hf : (Tryz.prog.fieldsOf 38).toList.map (fun f => (f.type, f.offset)) = [(22, 0), (3, 1)] := by kernel_rfl
  have hc : Tryz.prog.cellsOf 38 = 2 := by kernel_rfl
  have hn : (Tryz.prog.fieldsOf 38).all (·.name != "_") = true := by kernel_rfl
  have hi : Tryz.prog.cellsOf 3 = 1 := by kernel_rfl
  have he1 : Tryz.prog.cellsOf 22 = 1 := by kernel_rfl
  unfold Program.keyLits
  rw [hu]
  simp only []
  rw [if_pos ⟨by rw [hc]; rfl, hn⟩]
  have key : ∀ l : List Field, l.map (fun f => (f.type, f.offset)) = [(22, 0), (3, 1)] →
      (l.mapM fun f => Tryz.prog.keyLits 2 f.type (((fltC e a).drop f.offset).take (Tryz.prog.cellsOf f.type))) = some [[.int .i64 e], [.int .i64 a]] := by
    intro l hl
    obtain ⟨f1, l, rfl, e1, hl⟩ := List.map_eq_cons_iff.1 hl
    obtain ⟨f2, l, rfl, e2, hl⟩ := List.map_eq_cons_iff.1 hl
    obtain rfl := List.map_eq_nil_iff.1 hl
    simp only [Prod.mk.injEq] at e1 e2
    simp only [List.mapM_cons, List.mapM_nil, e1.1, e1.2, e2.1, e2.2, hi, he1]
    show (do let x ← Tryz.prog.keyLits 2 22 [.int .i64 e]; let xs ← (do let y ← Tryz.prog.keyLits 2 3 [.int .i64 a]; let ys ← pure []; pure (y :: ys)); pure (x :: xs)) = _
    rw [h1, h2]
    rfl
  rw [key _ hf]
  rfl
theorem flt_formed (e a : Int) : (Value.agg (fltC e a).toArray).formed Tryz.prog 38 = true := by kernel_rfl
/-- a fault against another one -/
theorem flt_eq {e a e' a' : Int} (he : (Lit.int .i64 e).wf = true) (ha : (Lit.int .i64 a).wf = true) (he' : (Lit.int .i64 e').wf = true) (ha' : (Lit.int .i64 a').wf = true) (xo yo : Operand) (w : World) :
    (do eqGuard .eql 38 xo yo (.agg (fltC e a).toArray) (.agg (fltC e' a').toArray); binOp .eql 38 (.agg (fltC e a).toArray) (.agg (fltC e' a').toArray) : Sem Value).run Tryz.prog w = .ok (.bool (decide (e = e' ∧ a = a'))) w :=
  eql_lits (m := 3) (by kernel_rfl) (by decide) (by kernel_rfl) (flt_formed e a) (flt_formed e' a') (flt_lits he ha) (flt_lits he' ha') (by simp) xo yo w
/-- the reader's cells -/
def rdC (s : Value) (q e a : Int) : List Value := [s, .int .i64 q, .bool true, .int .i64 e, .int .i64 a]
theorem well_fn {h : Heap} {p : Nat} {s : Value} {q e a : Int} (y : Blk h p (rdC s q e a) 131) (he : (Lit.int .i64 e).wf = true) (ha : (Lit.int .i64 a).wf = true) :
    Fx Tryz.prog 63 #[.pointer (some ⟨p, 0, none⟩)] h fun u h' => u = .bool (decide (e = 0 ∧ a = 0)) ∧ h' = h := by
  refine fn_of 20 Tryz.func63 rfl (by kernel_rfl) rfl (by simp) ?_
  refine cw_seq (cw_go rfl ?_)
  conv => whnf
  refine cw_seq (cw_go rfl ?_)
  conv => whnf
  refine ⟨.bool true, fun w => by kernel_rfl, ?_⟩
  conv => whnf
  refine ⟨_, y.rd (o := 2) rfl, ?_⟩
  conv => whnf
  refine ⟨fltC e a, rfl, y.rdN 3 (fltC e a) rfl, ?_⟩
  conv => whnf
  refine ⟨_, rfl, (fltC 0 0).toArray, fun w => by kernel_rfl, ?_⟩
  conv => whnf
  refine ⟨_, fun w => flt_eq he ha (by decide) (by decide) _ _ w, ?_⟩
  conv => whnf
  exact cw_ret ⟨rfl, rfl⟩
theorem left_fn {h : Heap} {p : Nat} {s : Value} {q e a : Int} {l : List UInt8} (y : Blk h p (rdC s q e a) 131) (r : RB h s l) (hl : l.length ≤ 1000000000) (hq : 0 ≤ q ∧ q ≤ l.length) :
    Fx Tryz.prog 65 #[.pointer (some ⟨p, 0, none⟩)] h fun u h' => u = .int .i64 ((l.length : Int) - q) ∧ ExtH h h' := by
  obtain ⟨sa, sc, hse, _⟩ := Vm.Src.form r
  subst hse
  refine fn_of 13 Tryz.func65 rfl (by kernel_rfl) rfl (by simp) ?_
  refine cw_seq (cw_go rfl ?_)
  conv => whnf
  refine cw_seq (cw_dgo (by kernel_rfl) 10 (List.range 10) (by kernel_rfl) rfl ?_)
  conv => whnf
  refine ⟨_, y.rd (o := 0) rfl, ?_⟩
  conv => whnf
  refine ⟨_, y.rd (o := 1) rfl, ?_⟩
  conv => whnf
  refine say_i (by omega) ?_
  conv => whnf
  intro h1 x1
  conv => whnf
  exact cw_ret ⟨rfl, x1⟩
theorem fails_fn {h : Heap} {p : Nat} {s : Value} {q e a x z : Int} (y : Blk h p (rdC s q e a) 131) :
    Fx Tryz.prog 64 #[.pointer (some ⟨p, 0, none⟩), .int .i64 x, .int .i64 z] h fun _ h' => Wrote h h' p (rdC s q x z) 131 := by
  refine fn_of 12 Tryz.func64 rfl (by kernel_rfl) rfl (by simp) ?_
  refine cw_go rfl ?_
  conv => whnf
  refine ⟨_, rfl, (fltC x z).toArray, fun w => by kernel_rfl, ?_⟩
  conv => whnf
  refine ⟨_, _, y, ⟨by show 5 ≤ 5; decide, rfl, by simp [fltC, Value.oneCell']⟩, ?_⟩
  intro h1 w1
  exact w1
end Go.Proofs.YtkdmpdbbcgdfkaaGreatDoor
namespace Go.Proofs.YtkdmpdbbcgdfkaaGreatDoor
open Go Vm
set_option maxRecDepth 100000
set_option linter.unusedVariables false
set_option linter.unusedSimpArgs false
theorem drop_cons {l : List UInt8} {i : Nat} (h : i < l.length) : l.drop i = l.getD i 0 :: l.drop (i + 1) := by
  rw [List.drop_eq_getElem_cons h]
  congr 1
  rw [List.getD_eq_getElem?_getD, List.getElem?_eq_getElem h]
  rfl
theorem pow7 {k : Nat} (hk : k ≤ 9) : (2 : Nat) ^ (7 * k) ≤ 2 ^ 63 := Nat.pow_le_pow_right (by decide) (by omega)
theorem acc_step {a k : Nat} {c : UInt8} (ha : a < 2 ^ (7 * k)) (hk : k ≤ 9) (h9 : k = 9 → c.toNat ≤ 1) : c.toNat % 128 * 2 ^ (7 * k) < 2 ^ 64 ∧ a + c.toNat % 128 * 2 ^ (7 * k) < 2 ^ 64 := by
  by_cases e : k = 9
  · subst e
    have := h9 rfl
    have h1 : c.toNat % 128 ≤ 1 := by omega
    have h2 : c.toNat % 128 * 2 ^ (7 * 9) ≤ 1 * 2 ^ (7 * 9) := Nat.mul_le_mul_right _ h1
    have h3 : (2 : Nat) ^ (7 * 9) + 2 ^ (7 * 9) = 2 ^ 64 := by decide
    omega
  · have h1 : c.toNat % 128 ≤ 127 := by omega
    have h2 : c.toNat % 128 * 2 ^ (7 * k) ≤ 127 * 2 ^ (7 * k) := Nat.mul_le_mul_right _ h1
    have h3 : (2 : Nat) ^ (7 * (k + 1)) = 128 * 2 ^ (7 * k) := by rw [show 7 * (k + 1) = 7 * k + 7 by omega, Nat.pow_add]; omega
    have h4 : (2 : Nat) ^ (7 * (k + 1)) ≤ 2 ^ 63 := Nat.pow_le_pow_right (by decide) (by omega)
    have h5 : (2 : Nat) ^ 63 < 2 ^ 64 := by decide
    omega
theorem number_fn {h : Heap} {p : Nat} {s : Value} {q e a : Int} {l : List UInt8} (y : Blk h p (rdC s q e a) 131) (r : RB h s l) (hl : l.length ≤ 1000000000) {n : Nat} (hn : n ≤ l.length) :
    Fx Tryz.prog 66 #[.pointer (some ⟨p, 0, none⟩), .int .i64 (n : Int)] h fun u h' => u = .tuple #[.int .u64 ((Cd.numAt l n).1 : Int), .int .i64 ((Cd.numAt l n).2.1 : Int), .int .i64 ((Cd.numAt l n).2.2 : Int)] ∧ h' = h := by
  obtain ⟨sa, sc, hse, _⟩ := Vm.Src.form r
  subst hse
  generalize hres : Cd.numAt l n = res
  refine fn_of 57 Tryz.func66 rfl (by kernel_rfl) rfl (by simp) ?_
  refine cw_seq (cw_go rfl ?_)
  conv => whnf
  refine cw_seq (cw_go rfl ?_)
  conv => whnf
  refine cw_seq (cw_go rfl ?_)
  conv => whnf
  refine cw_block ?_
  refine cw_loop (S := Nat × Nat) (fun s => [(0, .pointer (some ⟨p, 0, none⟩)), (1, .int .i64 (n : Int)), (7, .int .u64 (s.2 : Int)), (8, .int .i64 (s.1 : Int))])
    (fun s h' => s.1 ≤ 9 ∧ s.2 < 2 ^ (7 * s.1) ∧ n + s.1 ≤ l.length ∧ Cd.num (l.drop (n + s.1)) s.1 s.2 = res ∧ h' = h) (fun s => 10 - s.1) (0, 0) ⟨rfl, rfl, rfl, rfl, trivial⟩ ⟨by show 0 ≤ 9; decide, by show 0 < 2 ^ 0; decide, by show n + 0 ≤ _; omega, hres, rfl⟩ ?_
  rintro ⟨k, acc⟩ _ ⟨hk, hacc, hnk, hnum, rfl⟩
  replace hk : k ≤ 9 := hk
  replace hacc : acc < 2 ^ (7 * k) := hacc
  replace hnk : n + k ≤ l.length := hnk
  replace hnum : Cd.num (l.drop (n + k)) k acc = res := hnum
  refine cw_seq (cw_block ?_)
  refine cw_seq (cw_seq (cw_go rfl ?_))
  conv => whnf
  refine say_i (by omega) ?_
  conv => whnf
  refine ⟨_, y.rd (o := 0) rfl, ?_⟩
  conv => whnf
  by_cases hlt : n + k < l.length
  · refine say_f (by omega) ?_
    conv => whnf
    refine cw_false rfl (cw_skip ?_)
    rw [drop_cons hlt] at hnum
    generalize hcc : l.getD (n + k) 0 = c at hnum
    refine cw_seq (cw_go rfl ?_)
    conv => whnf
    refine ⟨_, y.rd (o := 0) rfl, ?_⟩
    conv => whnf
    refine say_i (by omega) ?_
    conv => whnf
    obtain ⟨b, o, cp, he, hr⟩ := r.get (n + k) hlt
    injection he with he1 _ he2
    subst he1 he2
    refine And.intro ⟨by omega, by omega⟩ ?_
    conv => whnf
    refine ⟨_, by rwa [show o + (n + k) = o + ((n : Int) + (k : Int)).toNat by omega] at hr, ?_⟩
    rw [hcc]
    have hc := c.toNat_lt
    conv => whnf
    refine cw_seq (cw_seq (cw_go rfl ?_))
    conv => whnf
    by_cases hA : k = 9 ∧ c.toNat > 1
    · refine say_t (by show (k : Int) = 9; omega) ?_
      conv => whnf
      refine say_t (by omega) ?_
      conv => whnf
      refine cw_true rfl ?_
      refine cw_seq (cw_go rfl ?_)
      conv => whnf
      refine cw_ret ⟨?_, rfl⟩
      rw [Cd.num, if_pos hA] at hnum
      rw [← hnum]
      rfl
    · have h9 : k = 9 → c.toNat ≤ 1 := fun e => by
        have := fun h => hA ⟨e, h⟩
        omega
      rw [Cd.num, if_neg hA] at hnum
      obtain ⟨b1, b2⟩ := acc_step hacc hk h9
      by_cases e9 : k = 9
      case' pos =>
        refine say_t (by show (k : Int) = 9; omega) ?_
        conv => whnf
        refine say_f (by have := h9 e9; omega) ?_
        conv => whnf
        refine cw_false rfl (cw_skip ?_)
      case' neg =>
        refine say_f (by show ¬ (k : Int) = 9; omega) ?_
        conv => whnf
        refine cw_false rfl (cw_skip ?_)
      all_goals
        refine cw_seq (cw_go rfl ?_)
        conv => whnf
        refine say_w (Cd.low7 c) ?_
        conv => whnf
        refine say_u64 (by omega) ?_
        conv => whnf
        refine say_i (x := 7 * (k : Int)) (by omega) ?_
        conv => whnf
        refine And.intro (by omega) ?_
        refine say_w (y := ((c.toNat % 128 * 2 ^ (7 * k) : Nat) : Int)) (by
          have := Cd.shl64 (c.toNat % 128) (7 * k) b1 (by omega)
          rw [show ((7 * k : Nat) : Int) = 7 * (k : Int) by push_cast; rfl] at this
          exact this) ?_
        conv => whnf
        refine say_w (Cd.or64 acc (c.toNat % 128) (7 * k) hacc b1 (by omega)) ?_
        conv => whnf
        refine cw_seq (cw_go rfl ?_)
        conv => whnf
        by_cases h128 : c.toNat < 128
        · refine say_t (by omega) ?_
          conv => whnf
          refine cw_true rfl ?_
          rw [if_pos h128] at hnum
          have hm : c.toNat % 128 = c.toNat := Nat.mod_eq_of_lt h128
          refine cw_seq (cw_seq (cw_go rfl ?_))
          conv => whnf
          by_cases hB : c.toNat = 0 ∧ k > 0
          · refine say_t (by omega) ?_
            conv => whnf
            refine say_t (by show (k : Int) > 0; omega) ?_
            conv => whnf
            refine cw_true rfl ?_
            refine cw_seq (cw_go rfl ?_)
            conv => whnf
            refine cw_ret ⟨?_, rfl⟩
            rw [if_pos hB] at hnum
            rw [← hnum]
            rfl
          · rw [if_neg hB] at hnum
            by_cases hC : c.toNat = 0
            case' pos =>
              refine say_t (by omega) ?_
              conv => whnf
              refine say_f (by show ¬ (k : Int) > 0; have := fun h => hB ⟨hC, h⟩; omega) ?_
              conv => whnf
              refine cw_false rfl (cw_skip ?_)
            case' neg =>
              refine say_f (by omega) ?_
              conv => whnf
              refine cw_false rfl (cw_skip ?_)
            all_goals
              refine cw_seq (cw_go rfl ?_)
              conv => whnf
              refine say_i (x := (k : Int) + 1) (by omega) ?_
              conv => whnf
              refine cw_ret ⟨?_, rfl⟩
              rw [← hnum, hm]
              rfl
        · refine say_f (by omega) ?_
          conv => whnf
          refine cw_false rfl (cw_skip ?_)
          rw [if_neg h128] at hnum
          refine cw_go rfl ?_
          conv => whnf
          refine say_i (x := (k : Int) + 1) (by omega) ?_
          have hk8 : k + 1 ≤ 9 := by
            rcases Nat.lt_or_ge k 9 with h | h
            · omega
            · have := h9 (by omega); omega
          refine ⟨(k + 1, acc + c.toNat % 128 * 2 ^ (7 * k)), ⟨rfl, rfl, rfl, rfl, trivial⟩, ⟨hk8, ?_, by show n + (k + 1) ≤ _; omega, ?_, rfl⟩, by show 10 - (k + 1) < 10 - k; omega⟩
          · show acc + c.toNat % 128 * 2 ^ (7 * k) < 2 ^ (7 * (k + 1))
            have h1 : c.toNat % 128 * 2 ^ (7 * k) ≤ 127 * 2 ^ (7 * k) := Nat.mul_le_mul_right _ (by omega)
            have h3 : (2 : Nat) ^ (7 * (k + 1)) = 128 * 2 ^ (7 * k) := by rw [show 7 * (k + 1) = 7 * k + 7 by omega, Nat.pow_add]; omega
            omega
          · show Cd.num (l.drop (n + (k + 1))) (k + 1) (acc + c.toNat % 128 * 2 ^ (7 * k)) = res
            exact hnum
  · refine say_t (by omega) ?_
    conv => whnf
    refine cw_true rfl ?_
    refine cw_seq (cw_go rfl ?_)
    conv => whnf
    refine cw_ret ⟨?_, rfl⟩
    rw [List.drop_eq_nil_of_le (by omega)] at hnum
    rw [← hnum]
    rfl
end Go.Proofs.YtkdmpdbbcgdfkaaGreatDoor
namespace Go.Proofs.YtkdmpdbbcgdfkaaGreatDoor
open Go Vm
set_option maxRecDepth 100000
set_option linter.unusedVariables false
set_option linter.unusedSimpArgs false
theorem Cd.num_err : ∀ (l : List UInt8) (k a : Nat), (Cd.num l k a).2.2 ≤ 10
  | [], k, a => by simp [Cd.num]
  | c :: r, k, a => by
    unfold Cd.num
    split
    · simp
    · split
      · split <;> simp
      · exact Cd.num_err r _ _
theorem wf64 (n : Int) (h : -9223372036854775808 ≤ n ∧ n ≤ 9223372036854775807) : (Lit.int .i64 n).wf = true := by
  simp [Lit.wf, IntKind.min, IntKind.max, IntKind.signed, IntKind.bits]
  omega
theorem ob_ne {s : Value} {p : Nat} (h : ∀ b, ob s b → b < p) : ∀ b, ob s b → b ≠ p := fun b hb => Nat.ne_of_lt (h b hb)
/-- the reader at p, of the bytes l: where it stands, or that it failed -/
def RdAt (h : Heap) (p : Nat) (l : List UInt8) (st : Cd.St) : Prop :=
  ∃ (s : Value) (q e a : Int), Blk h p (rdC s q e a) 131 ∧ RB h s l ∧ (∀ b, ob s b → b < p) ∧ (Lit.int .i64 e).wf = true ∧ (Lit.int .i64 a).wf = true ∧
    match st with
    | some k => q = (k : Int) ∧ k ≤ l.length ∧ e = 0 ∧ a = 0
    | none => e ≠ 0
/-- only the block p turned -/
abbrev Own1 (p : Nat) (h h' : Heap) : Prop := Chg (fun b => b = p) h h'
theorem own1_w {h h' : Heap} {p : Nat} {l : List Value} {t : TypeId} (w : Wrote h h' p l t) : Own1 p h h' := ⟨by rw [w.size]; exact Nat.le_refl _, fun b _ hb => w.block b hb⟩
theorem count_fn {h : Heap} {p : Nat} {l : List UInt8} {st : Cd.St} (R : RdAt h p l st) (hl : l.length ≤ 1000000000) {most : Nat} (hm : most ≤ 1000000000000) :
    Fx Tryz.prog 31 #[.pointer (some ⟨p, 0, none⟩), .int .i64 (most : Int)] h fun u h' => u = .int .i64 ((Cd.count l most st).1 : Int) ∧ RdAt h' p l (Cd.count l most st).2 ∧ Own1 p h h' := by
  obtain ⟨s, q, e, a, y, r, hsp, he, ha, hst⟩ := R
  refine fn_of 61 Tryz.func31 rfl (by kernel_rfl) rfl (by simp) ?_
  refine cw_seq (cw_go rfl ?_)
  conv => whnf
  refine cw_seq (cw_seq (cw_go rfl ?_))
  conv => whnf
  refine ⟨_, rfl, _, well_fn y he ha, ?_⟩
  rintro _ _ ⟨rfl, e0⟩
  replace e0 := e0.symm
  subst e0
  cases st with
  | none =>
    rw [decide_eq_false (fun h => hst h.1)]
    conv => whnf
    refine cw_true rfl ?_
    refine cw_seq (cw_go rfl ?_)
    conv => whnf
    exact cw_ret ⟨rfl, ⟨s, q, e, a, y, r, hsp, he, ha, hst⟩, (ExtH.refl _).chg⟩
  | some k =>
    obtain ⟨rfl, hk, rfl, rfl⟩ := hst
    rw [decide_eq_true ⟨rfl, rfl⟩]
    conv => whnf
    refine cw_false rfl (cw_skip ?_)
    refine cw_seq (cw_seq (cw_go rfl ?_))
    conv => whnf
    refine say_f (by omega) ?_
    conv => whnf
    refine cw_false rfl (cw_skip ?_)
    have hlt := Cd.num_lt (l.drop k) 0 0 (by decide) (by decide)
    have h10 := Cd.num_le10 (l.drop k) 0 0 (by decide)
    have hkl := Cd.num_k (l.drop k) 0 0
    have her := Cd.num_err (l.drop k) 0 0
    rw [List.length_drop] at hkl
    have hcnt : Cd.count l most (some k) = if (Cd.numAt l k).2.2 = 0 ∧ (Cd.numAt l k).1 ≤ most then ((Cd.numAt l k).1, some (k + (Cd.numAt l k).2.1)) else (0, none) := rfl
    rw [hcnt]
    have hnum := fun g => number_fn (h := g) (p := p) (s := s) (q := (k : Int)) (e := 0) (a := 0) (l := l)
    change (Cd.numAt l k).1 < _ at hlt
    change (Cd.numAt l k).2.2 = 0 → _ at h10
    change (Cd.numAt l k).2.2 = 0 → _ ≤ (Cd.numAt l k).2.1 ∧ (Cd.numAt l k).2.1 ≤ _ at hkl
    change (Cd.numAt l k).2.2 ≤ _ at her
    refine cw_seq (cw_go rfl ?_)
    conv => whnf
    refine ⟨_, y.rd (o := 1) rfl, ?_⟩
    conv => whnf
    refine ⟨_, rfl, _, number_fn y r hl hk, ?_⟩
    rintro _ _ ⟨rfl, e0⟩
    replace e0 := e0.symm
    subst e0
    generalize Cd.numAt l k = res at *
    obtain ⟨n, kk, er⟩ := res
    simp only [] at hlt h10 hkl her ⊢
    conv => whnf
    refine cw_seq (cw_seq (cw_go rfl ?_))
    conv => whnf
    by_cases hA : er = 0 ∧ n ≤ most
    · rw [if_pos hA]
      obtain ⟨rfl, hnm⟩ := hA
      have h10 := h10 rfl
      have hkl := hkl rfl
      refine say_t (by decide) ?_
      conv => whnf
      refine say_u64 (by omega) ?_
      conv => whnf
      refine say_f (by omega) ?_
      conv => whnf
      refine cw_false rfl (cw_skip ?_)
      refine cw_seq (cw_seq (cw_go rfl ?_))
      conv => whnf
      refine say_f (by decide) ?_
      conv => whnf
      refine cw_false rfl (cw_skip ?_)
      refine cw_seq (cw_go rfl ?_)
      conv => whnf
      refine ⟨_, y.rd (o := 1) rfl, ?_⟩
      conv => whnf
      refine say_i (by omega) ?_
      conv => whnf
      refine ⟨_, _, y, by show 1 < 5; decide, ?_⟩
      intro h1 w1
      replace w1 := w1.cast (l' := rdC s ((k + kk : Nat) : Int) 0 0) (by rw [show ((k + kk : Nat) : Int) = (k : Int) + kk by push_cast; rfl]; rfl)
      conv => whnf
      refine cw_seq (cw_go rfl ?_)
      conv => whnf
      refine say_i (by omega) ?_
      refine cw_ret ⟨rfl, ⟨s, ((k + kk : Nat) : Int), 0, 0, w1.new, ?_, hsp, he, ha, rfl, by omega, rfl, rfl⟩, own1_w w1⟩
      exact r.keep (own1_w w1) (ob_ne hsp)
    · rw [if_neg hA]
      by_cases h0 : er = 0
      case' pos =>
        subst h0
        refine say_t (by decide) ?_
        conv => whnf
        refine say_u64 (by omega) ?_
        conv => whnf
        refine say_t (by have := fun h => hA ⟨rfl, h⟩; omega) ?_
        conv => whnf
        refine cw_true rfl ?_
        refine cw_go rfl ?_
        conv => whnf
        generalize hE : (11 : Int) = E
        have hE0 : E ≠ 0 ∧ 0 ≤ E ∧ E ≤ 11 := by omega
        clear hE
      case' neg =>
        refine say_f (by omega) ?_
        conv => whnf
        refine cw_false rfl (cw_skip ?_)
        generalize hE : (er : Int) = E
        have hE0 : E ≠ 0 ∧ 0 ≤ E ∧ E ≤ 11 := by omega
        clear hE
      all_goals
        refine cw_seq (cw_seq (cw_go rfl ?_))
        conv => whnf
        refine say_t (by omega) ?_
        conv => whnf
        refine cw_true rfl ?_
        refine cw_seq (cw_go rfl ?_)
        conv => whnf
        refine ⟨_, y.rd (o := 1) rfl, ?_⟩
        conv => whnf
        refine ⟨_, rfl, _, fails_fn y, ?_⟩
        rintro _ h1 w1
        conv => whnf
        refine cw_seq (cw_go rfl ?_)
        conv => whnf
        refine cw_ret ⟨rfl, ⟨s, (k : Int), E, (k : Int), w1.new, r.keep (own1_w w1) (ob_ne hsp), hsp, wf64 _ (by omega), wf64 _ (by omega), hE0.1⟩, own1_w w1⟩
end Go.Proofs.YtkdmpdbbcgdfkaaGreatDoor
namespace Go.Proofs.YtkdmpdbbcgdfkaaGreatDoor
open Go Vm
set_option maxRecDepth 100000
set_option linter.unusedVariables false
set_option linter.unusedSimpArgs false
theorem text_at_fn {h : Heap} {p : Nat} {s : Value} {q e a : Int} {l : List UInt8} (y : Blk h p (rdC s q e a) 131) (r : RB h s l) (hl : l.length ≤ 1000000000) {k : Nat} (hk : k ≤ l.length) {most : Nat} (hm : most ≤ 1000000000000) :
    Fx Tryz.prog 67 #[.pointer (some ⟨p, 0, none⟩), .int .i64 (k : Int), .int .i64 (most : Int)] h fun u h' => h' = h ∧
      ((∃ e', Cd.text l most (some k) = (((l.drop (k + (Cd.numAt l k).2.1)).take (Cd.numAt l k).1), some e') ∧ e' ≤ l.length ∧ u = .tuple #[.string (bs ((l.drop (k + (Cd.numAt l k).2.1)).take (Cd.numAt l k).1)), .int .i64 (e' : Int), .int .i64 0]) ∨
       (Cd.text l most (some k) = ([], none) ∧ ∃ er : Int, er ≠ 0 ∧ 0 ≤ er ∧ er ≤ 10 ∧ u = .tuple #[.string ⟨#[]⟩, .int .i64 0, .int .i64 er])) := by
  have hlt := Cd.num_lt (l.drop k) 0 0 (by decide) (by decide)
  have h10 := Cd.num_le10 (l.drop k) 0 0 (by decide)
  have hkl := Cd.num_k (l.drop k) 0 0
  have her := Cd.num_err (l.drop k) 0 0
  rw [List.length_drop] at hkl
  have htx : Cd.text l most (some k) = if (Cd.numAt l k).2.2 = 0 ∧ (Cd.numAt l k).1 ≤ most ∧ (Cd.numAt l k).1 ≤ l.length - k - (Cd.numAt l k).2.1 then
      ((l.drop (k + (Cd.numAt l k).2.1)).take (Cd.numAt l k).1, some (k + (Cd.numAt l k).2.1 + (Cd.numAt l k).1)) else ([], none) := rfl
  rw [htx]
  change (Cd.numAt l k).1 < _ at hlt
  change (Cd.numAt l k).2.2 = 0 → _ at h10
  change (Cd.numAt l k).2.2 = 0 → _ ≤ (Cd.numAt l k).2.1 ∧ (Cd.numAt l k).2.1 ≤ _ at hkl
  change (Cd.numAt l k).2.2 ≤ _ at her
  obtain ⟨sa, sc, hse, _, hsc⟩ := Vm.Src.form r
  subst hse
  refine fn_of 61 Tryz.func67 rfl (by kernel_rfl) rfl (by simp) ?_
  refine cw_seq (cw_go rfl ?_)
  conv => whnf
  refine cw_seq (cw_go rfl ?_)
  conv => whnf
  refine ⟨_, rfl, _, number_fn y r hl hk, ?_⟩
  rintro _ _ ⟨rfl, e0⟩
  replace e0 := e0.symm
  subst e0
  generalize Cd.numAt l k = res at *
  obtain ⟨n, kk, er⟩ := res
  simp only [] at hlt h10 hkl her ⊢
  conv => whnf
  refine cw_seq (cw_block ?_)
  refine cw_seq (cw_go rfl ?_)
  conv => whnf
  by_cases h0 : er = 0
  · subst h0
    have h10 := h10 rfl
    have hkl := hkl rfl
    refine say_f (by decide) ?_
    conv => whnf
    refine cw_false rfl ?_
    refine cw_seq (cw_go rfl ?_)
    conv => whnf
    refine say_u64 (by omega) ?_
    conv => whnf
    by_cases h1 : n ≤ most
    · refine say_f (by omega) ?_
      conv => whnf
      refine cw_false rfl ?_
      refine cw_seq (cw_go rfl ?_)
      conv => whnf
      refine ⟨_, y.rd (o := 0) rfl, ?_⟩
      conv => whnf
      refine say_i (by omega) ?_
      conv => whnf
      refine say_i (by omega) ?_
      conv => whnf
      refine say_u64 (by omega) ?_
      conv => whnf
      by_cases h2 : n ≤ l.length - k - kk
      · rw [if_pos ⟨rfl, h1, h2⟩]
        refine say_f (by omega) ?_
        conv => whnf
        refine cw_false rfl (cw_skip ?_)
        refine cw_seq (cw_go rfl ?_)
        conv => whnf
        refine say_i (by omega) ?_
        conv => whnf
        refine say_i (by omega) ?_
        conv => whnf
        refine say_i (by omega) ?_
        conv => whnf
        refine cw_seq (cw_go rfl ?_)
        conv => whnf
        refine ⟨_, y.rd (o := 0) rfl, ?_⟩
        conv => whnf
        refine say_i (by omega) ?_
        conv => whnf
        obtain ⟨hb, A, hA, hr⟩ := RB.cut r (k + kk) (k + kk + n) (by omega) (by omega) (x := (k : Int) + kk) (y := (k : Int) + kk + n) (by push_cast; rfl) (by push_cast; rfl)
        refine ⟨hb, A, hA, ?_⟩
        conv => whnf
        refine ⟨_, conv_str rfl rfl rfl hr, ?_⟩
        rintro _ _ ⟨rfl, e0⟩
        replace e0 := e0.symm
        subst e0
        refine cw_ret ⟨rfl, .inl ⟨k + kk + n, rfl, by omega, ?_⟩⟩
        have e1 : k + kk + n - (k + kk) = n := by omega
        rw [e1]
        have e2 : ((k + kk + n : Nat) : Int) = (k : Int) + kk + n := by push_cast; rfl
        rw [e2]
        rfl
      · rw [if_neg (fun h => h2 h.2.2)]
        refine say_t (by omega) ?_
        conv => whnf
        refine cw_true rfl ?_
        refine cw_seq (cw_go rfl ?_)
        conv => whnf
        exact cw_ret ⟨rfl, .inr ⟨rfl, 4, by decide, by decide, by decide, rfl⟩⟩
    · rw [if_neg (fun h => h1 h.2.1)]
      refine say_t (by omega) ?_
      conv => whnf
      refine cw_true rfl ?_
      refine cw_seq (cw_go rfl ?_)
      conv => whnf
      exact cw_ret ⟨rfl, .inr ⟨rfl, 3, by decide, by decide, by decide, rfl⟩⟩
  · rw [if_neg (fun h => h0 h.1)]
    refine say_t (by omega) ?_
    conv => whnf
    refine cw_true rfl ?_
    refine cw_seq (cw_go rfl ?_)
    conv => whnf
    exact cw_ret ⟨rfl, .inr ⟨rfl, er, by omega, by omega, by omega, rfl⟩⟩
theorem text_fn {h : Heap} {p : Nat} {l : List UInt8} {st : Cd.St} (R : RdAt h p l st) (hl : l.length ≤ 1000000000) {most : Nat} (hm : most ≤ 1000000000000) :
    Fx Tryz.prog 32 #[.pointer (some ⟨p, 0, none⟩), .int .i64 (most : Int)] h fun u h' => u = .string (bs (Cd.text l most st).1) ∧ RdAt h' p l (Cd.text l most st).2 ∧ Own1 p h h' := by
  obtain ⟨s, q, e, a, y, r, hsp, he, ha, hst⟩ := R
  refine fn_of 48 Tryz.func32 rfl (by kernel_rfl) rfl (by simp) ?_
  refine cw_seq (cw_go rfl ?_)
  conv => whnf
  refine cw_seq (cw_seq (cw_go rfl ?_))
  conv => whnf
  refine ⟨_, rfl, _, well_fn y he ha, ?_⟩
  rintro _ _ ⟨rfl, e0⟩
  replace e0 := e0.symm
  subst e0
  cases st with
  | none =>
    rw [decide_eq_false (fun h => hst h.1)]
    conv => whnf
    refine cw_true rfl ?_
    refine cw_seq (cw_go rfl ?_)
    conv => whnf
    exact cw_ret ⟨rfl, ⟨s, q, e, a, y, r, hsp, he, ha, hst⟩, (ExtH.refl _).chg⟩
  | some k =>
    obtain ⟨rfl, hk, rfl, rfl⟩ := hst
    rw [decide_eq_true ⟨rfl, rfl⟩]
    conv => whnf
    refine cw_false rfl (cw_skip ?_)
    refine cw_seq (cw_seq (cw_go rfl ?_))
    conv => whnf
    refine say_f (by omega) ?_
    conv => whnf
    refine cw_false rfl (cw_skip ?_)
    refine cw_seq (cw_go rfl ?_)
    conv => whnf
    refine ⟨_, y.rd (o := 1) rfl, ?_⟩
    conv => whnf
    refine ⟨_, rfl, _, text_at_fn y r hl hk hm, ?_⟩
    rintro u _ ⟨e0, hu⟩
    replace e0 := e0.symm
    subst e0
    rcases hu with ⟨e', ht, he', rfl⟩ | ⟨ht, er, h1, h2, h3, rfl⟩
    · rw [ht]
      conv => whnf
      refine cw_seq (cw_seq (cw_go rfl ?_))
      conv => whnf
      refine say_f (by decide) ?_
      conv => whnf
      refine cw_false rfl (cw_skip ?_)
      refine cw_seq (cw_go rfl ?_)
      conv => whnf
      refine ⟨_, _, y, by show 1 < 5; decide, ?_⟩
      intro g1 w1
      replace w1 := w1.cast (l' := rdC s (e' : Int) 0 0) (by rfl)
      conv => whnf
      refine cw_seq (cw_go rfl ?_)
      conv => whnf
      exact cw_ret ⟨rfl, ⟨s, (e' : Int), 0, 0, w1.new, r.keep (own1_w w1) (ob_ne hsp), hsp, he, ha, rfl, he', rfl, rfl⟩, own1_w w1⟩
    · rw [ht]
      conv => whnf
      refine cw_seq (cw_seq (cw_go rfl ?_))
      conv => whnf
      refine say_t (by omega) ?_
      conv => whnf
      refine cw_true rfl ?_
      refine cw_seq (cw_go rfl ?_)
      conv => whnf
      refine ⟨_, y.rd (o := 1) rfl, ?_⟩
      conv => whnf
      refine ⟨_, rfl, _, fails_fn y, ?_⟩
      rintro _ g1 w1
      conv => whnf
      refine cw_seq (cw_go rfl ?_)
      conv => whnf
      exact cw_ret ⟨rfl, ⟨s, (k : Int), er, (k : Int), w1.new, r.keep (own1_w w1) (ob_ne hsp), hsp, wf64 _ (by omega), wf64 _ (by omega), h1⟩, own1_w w1⟩
end Go.Proofs.YtkdmpdbbcgdfkaaGreatDoor
namespace Go.Proofs.YtkdmpdbbcgdfkaaGreatDoor
open Go Vm
set_option maxRecDepth 100000
set_option linter.unusedVariables false
set_option linter.unusedSimpArgs false
theorem raw_fn {h : Heap} {p : Nat} {l : List UInt8} {st : Cd.St} (R : RdAt h p l st) (hl : l.length ≤ 1000000000) {n : Nat} (hn : n ≤ 1000000000) :
    Fx Tryz.prog 30 #[.pointer (some ⟨p, 0, none⟩), .int .i64 (n : Int)] h fun u h' => OB h' u (Cd.raw l n st).1 ∧ RdAt h' p l (Cd.raw l n st).2 ∧ Own1 p h h' ∧ ∀ b, ob u b → h.size ≤ b := by
  obtain ⟨s, q, e, a, y, r, hsp, he, ha, hst⟩ := R
  obtain ⟨sa, sc, hse, _, hsc⟩ := Vm.Src.form r
  subst hse
  have hp := y.lt
  refine fn_of 61 Tryz.func30 rfl (by kernel_rfl) rfl (by simp) ?_
  refine cw_seq (cw_go rfl ?_)
  conv => whnf
  refine cw_seq (cw_seq (cw_go rfl ?_))
  conv => whnf
  refine ⟨_, rfl, _, well_fn y he ha, ?_⟩
  rintro _ _ ⟨rfl, e0⟩
  replace e0 := e0.symm
  subst e0
  cases st with
  | none =>
    rw [decide_eq_false (fun h => hst h.1)]
    conv => whnf
    refine cw_true rfl ?_
    refine cw_seq (cw_go rfl ?_)
    conv => whnf
    exact cw_ret ⟨OB.nil _, ⟨_, q, e, a, y, r, hsp, he, ha, hst⟩, (ExtH.refl _).chg, fun b hb => (ob_nil hb).elim⟩
  | some k =>
    obtain ⟨rfl, hk, rfl, rfl⟩ := hst
    rw [decide_eq_true ⟨rfl, rfl⟩]
    conv => whnf
    refine cw_false rfl (cw_skip ?_)
    refine cw_seq (cw_block ?_)
    refine cw_seq (cw_go rfl ?_)
    conv => whnf
    refine say_f (by omega) ?_
    conv => whnf
    refine cw_false rfl ?_
    refine cw_seq (cw_go rfl ?_)
    conv => whnf
    refine ⟨_, rfl, _, left_fn y r hl ⟨by omega, by omega⟩, ?_⟩
    rintro _ h1 ⟨rfl, x1⟩
    have y1 := x1.blk y
    have r1 := Vm.Src.more r x1
    have z1 := x1.size
    conv => whnf
    have hraw : Cd.raw l n (some k) = if n ≤ l.length - k then ((l.drop k).take n, some (k + n)) else ([], none) := rfl
    rw [hraw]
    by_cases hA : n ≤ l.length - k
    · rw [if_pos hA]
      refine say_f (by omega) ?_
      conv => whnf
      refine cw_false rfl (cw_skip ?_)
      refine cw_seq (cw_go rfl ?_)
      conv => whnf
      refine ⟨_, y1.rd (o := 1) rfl, ?_⟩
      conv => whnf
      refine say_i (by omega) ?_
      conv => whnf
      refine ⟨_, _, y1, by show 1 < 5; decide, ?_⟩
      intro h2 w2
      replace w2 := w2.cast (l' := rdC (.slice sa l.length sc) ((k + n : Nat) : Int) 0 0) (by rw [show ((k + n : Nat) : Int) = (k : Int) + n by push_cast; rfl]; rfl)
      have y2 := w2.new
      have r2 := Vm.Src.keep r1 (own1_w w2) (ob_ne hsp)
      have z2 := w2.size
      conv => whnf
      refine cw_seq (cw_dgo (by kernel_rfl) 18 (List.range 18) (by kernel_rfl) rfl ?_)
      conv => whnf
      refine ⟨_, y2.rd (o := 0) rfl, ?_⟩
      conv => whnf
      refine ⟨_, y2.rd (o := 1) rfl, ?_⟩
      conv => whnf
      refine say_w (y := (k : Int)) (by rw [IntKind.wrap_i64]; push_cast; omega) ?_
      conv => whnf
      refine ⟨_, y2.rd (o := 1) rfl, ?_⟩
      conv => whnf
      obtain ⟨hb, A, hA', hr⟩ := RB.cut r2 k (k + n) (by omega) (by omega) (x := (k : Int)) (y := ((k + n : Nat) : Int)) rfl rfl
      refine ⟨hb, A, hA', ?_⟩
      conv => whnf
      intro h3 x3
      conv => whnf
      refine ⟨_, rfl, _, fresh_fn (Vm.Src.more hr x3) 0 (by rw [List.length_take]; omega) (by decide), ?_⟩
      rintro u h4 ⟨o4, x4, f4⟩
      conv => whnf
      have z3 := x3.size
      have z4 := x4.size
      have x24 := x3.trans x4
      have e1 : k + n - k = n := by omega
      rw [e1] at o4
      refine cw_ret ⟨o4, ⟨_, _, 0, 0, x24.blk y2, Vm.Src.more r2 x24, hsp, he, ha, rfl, by omega, rfl, rfl⟩, ?_, fun b hb => by have := f4 b hb; omega⟩
      exact ⟨by omega, fun b hb hne => by rw [x24.block b (by omega), w2.block b hne, x1.block b hb]⟩
    · rw [if_neg hA]
      refine say_t (by omega) ?_
      conv => whnf
      refine cw_true rfl ?_
      refine cw_seq (cw_go rfl ?_)
      conv => whnf
      refine ⟨_, y1.rd (o := 1) rfl, ?_⟩
      conv => whnf
      refine ⟨_, rfl, _, fails_fn y1, ?_⟩
      rintro _ h2 w2
      conv => whnf
      refine cw_seq (cw_go rfl ?_)
      conv => whnf
      have z2 := w2.size
      refine cw_ret ⟨OB.nil _, ⟨_, (k : Int), 4, (k : Int), w2.new, Vm.Src.keep r1 (own1_w w2) (ob_ne hsp), hsp, by decide, wf64 _ (by omega), by show (4 : Int) ≠ 0; decide⟩, ?_, fun b hb => (ob_nil hb).elim⟩
      exact ⟨by omega, fun b hb hne => by rw [w2.block b hne, x1.block b hb]⟩
end Go.Proofs.YtkdmpdbbcgdfkaaGreatDoor
namespace Go.Proofs.YtkdmpdbbcgdfkaaGreatDoor
open Go Vm
set_option maxRecDepth 100000
set_option linter.unusedVariables false
set_option linter.unusedSimpArgs false
theorem fault_fn {h : Heap} {p : Nat} {s : Value} {q e a : Int} (y : Blk h p (rdC s q e a) 131) :
    Fx Tryz.prog 34 #[.pointer (some ⟨p, 0, none⟩)] h fun u h' => u = .agg (fltC e a).toArray ∧ ExtH h h' := by
  refine fn_of 18 Tryz.func34 rfl (by kernel_rfl) rfl (by simp) ?_
  refine cw_seq (cw_go rfl ?_)
  conv => whnf
  intro h1 n1
  conv => whnf
  have y1 : Blk h1 h.size (fltC 0 0) 38 := n1.blk
  have x1 := n1.ext
  refine cw_seq (cw_seq (cw_go rfl ?_))
  conv => whnf
  refine ⟨.bool false, fun w => by kernel_rfl, ?_⟩
  conv => whnf
  refine ⟨_, (x1.blk y).rd (o := 2) rfl, ?_⟩
  conv => whnf
  refine cw_false rfl (cw_skip ?_)
  refine cw_seq (cw_go rfl ?_)
  conv => whnf
  refine ⟨fltC e a, rfl, (x1.blk y).rdN 3 (fltC e a) rfl, ?_⟩
  conv => whnf
  refine ⟨_, _, y1, ⟨by show 2 ≤ 2; decide, rfl, by simp [fltC, Value.oneCell']⟩, ?_⟩
  intro h2 w2
  have y2 : Blk h2 h.size (fltC e a) 38 := w2.new
  have z1 := n1.size
  have z2 := w2.size
  refine cw_ret ?_
  refine ⟨fltC e a, rfl, y2.rdN 0 (fltC e a) rfl, ?_⟩
  exact ⟨rfl, ⟨by omega, fun b hb => by rw [w2.block b (by omega), n1.block b hb]⟩⟩
end Go.Proofs.YtkdmpdbbcgdfkaaGreatDoor
namespace Go.Proofs.YtkdmpdbbcgdfkaaGreatDoor
open Go Vm
set_option maxRecDepth 100000
set_option linter.unusedVariables false
set_option linter.unusedSimpArgs false
end Go.Proofs.YtkdmpdbbcgdfkaaGreatDoor
