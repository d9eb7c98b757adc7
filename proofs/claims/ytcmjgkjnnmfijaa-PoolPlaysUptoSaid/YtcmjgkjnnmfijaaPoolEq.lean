/-
  '==' of digests and of workers; a slice literal of one structure.
-/
import Derived.Test.YtcmjgkjnnmfijaaPoolAt
import Derived.Great.BuildSlice
import Derived.Laws.StructEq
namespace Go.Proofs.Ytcmjgkjnnmfijaa
open Go Vm
set_option maxRecDepth 100000
set_option linter.unusedVariables false
theorem fill_one {k : Nat} (hk : 0 < k) (v : Value) (hv : v.cells.size = k) (cells : Array Value) (hc : cells.size = k) : Instr.fill (fun i => some (i * k, k)) cells [(0, v)] = some v.cells := by
  obtain ⟨r, hr, h1, h2⟩ := Great.fill_dense hk [v] 0 cells (fun u hu => by simp at hu; rw [hu]; exact hv) (by simp; omega)
  have e : r = v.cells := by
    apply Array.ext_getElem?
    intro i
    rw [h2 i]
    by_cases hi : i < k
    · rw [if_pos (by simp; omega)]
      simp [Nat.div_eq_of_lt hi, Nat.mod_eq_of_lt hi]
    · rw [if_neg (by simp; omega), Array.getElem?_eq_none (by omega), Array.getElem?_eq_none (by omega)]
  rw [← e]
  exact hr
theorem build_one {P : Program} {t e : TypeId} {ie : TypeInfo} {z v : Value} (hu : P.underlying t = some (.slice e)) (hie : P.info? e = some ie) (hz : ie.zero = some z) (h0 : 0 < ie.size) (h1 : ie.size ≤ 2 ^ 24) (hv : v.cells.size = ie.size) (w : World) :
    (Instr.buildSlice t 1 #[(0, v)]).run P w = .ok (.slice (some ⟨w.heap.size, 0, none⟩) 1 1) (w.alloc (.cells v.cells e)) :=
  run_buildSlice w t e 1 #[(0, v)] v.cells ie z hu hie hz (by omega) (by omega) (fill_one h0 v hv _ (by simp))
theorem u8v_inj (l m : List UInt8) : l.map (fun b => (b.toNat : Int)) = m.map (fun b => (b.toNat : Int)) ↔ l = m := by
  constructor
  · intro h
    refine List.map_inj_right (f := fun b : UInt8 => (b.toNat : Int)) ?_ |>.1 h
    intro a b hab
    exact UInt8.toNat_inj.1 (by exact_mod_cast hab)
  · rintro rfl; rfl
theorem map_u8v (l : List UInt8) : l.map u8v = (l.map (fun b => (b.toNat : Int))).map (Value.int .u8) := by
  rw [List.map_map]; rfl
theorem dig_eq (xo yo : Operand) (l m : List UInt8) (h1 : l.length = 32) (h2 : m.length = 32) (w : World) :
    (do eqGuard .eql 29 xo yo (.agg (l.map u8v).toArray) (.agg (m.map u8v).toArray); binOp .eql 29 (.agg (l.map u8v).toArray) (.agg (m.map u8v).toArray) : Sem Value).run Try.prog w = .ok (.bool (decide (l = m))) w := by
  rw [map_u8v, map_u8v, run_eq_ints (P := Try.prog) (t := 29) (e := 5) (n := 32) rfl rfl (by kernel_rfl) (i := Try.prog.types[5]) rfl (by kernel_rfl) (by kernel_rfl) xo yo _ _ (by simpa using h1) (by simpa using h2) w]
  simp only [u8v_inj]
theorem dig_ne (xo yo : Operand) (l m : List UInt8) (h1 : l.length = 32) (h2 : m.length = 32) (w : World) :
    (do eqGuard .neq 29 xo yo (.agg (l.map u8v).toArray) (.agg (m.map u8v).toArray); binOp .neq 29 (.agg (l.map u8v).toArray) (.agg (m.map u8v).toArray) : Sem Value).run Try.prog w = .ok (.bool (!decide (l = m))) w := by
  rw [map_u8v, map_u8v, run_ne_ints (P := Try.prog) (t := 29) (e := 5) (n := 32) rfl rfl (by kernel_rfl) (i := Try.prog.types[5]) rfl (by kernel_rfl) (by kernel_rfl) xo yo _ _ (by simpa using h1) (by simpa using h2) w]
  simp only [u8v_inj]
theorem dig_equalIn (d : Nat) (l m : List UInt8) (h1 : l.length = 32) (h2 : m.length = 32) (w : World) : (Op.equalIn (d + 2) 29 (.agg (l.map u8v).toArray) (.agg (m.map u8v).toArray)).run Try.prog w = .ok (decide (l = m)) w := by
  have ht : Try.prog.underlying 29 = some (.array 32 5) := rfl
  have hi : Try.prog.info? 5 = some Try.prog.types[5] := rfl
  have hc : Try.prog.cellsOf 5 = 1 := by kernel_rfl
  have hu : Try.prog.underlying 5 = some (.int .u8) := rfl
  have hp : Try.prog.plainKey 5 = true := by kernel_rfl
  rw [map_u8v, map_u8v]
  rw [show d + 2 = d + 1 + 1 from rfl, run_equalIn_array (P := Try.prog) w (d + 1) _ _ ht hi, hc, run_eqItems_ints hu hp d _ _ w _ (fun i hi => by rw [List.mem_range] at hi; simp only [List.length_map]; omega), all_range_eq 32 _ _ (by simpa using h1) (by simpa using h2)]
  simp only [u8v_inj]
theorem wk_ext {a b : Wk} : a = b ↔ a.n = b.n ∧ a.st = b.st ∧ a.sl = b.sl ∧ a.key = b.key ∧ a.ld = b.ld ∧ a.id = b.id := by
  cases a; cases b; simp
instance : DecidableEq Wk := fun a b => decidable_of_iff _ wk_ext.symm
theorem wk_fields : (Try.prog.fieldsOf 31).toList.map (fun f => (f.name != "_", f.type, f.offset)) = [(true, 3, 0), (true, 3, 1), (true, 3, 2), (true, 29, 3), (true, 3, 35), (true, 3, 36)] := by kernel_rfl
theorem eqf_int {d : Nat} {f : Field} {fs : List Field} {o : Nat} (hf : (f.name != "_", f.type, f.offset) = (true, 3, o)) {xs ys : Array Value} {a b : Int} (h1 : xs[o]? = some (.int .i64 a)) (h2 : ys[o]? = some (.int .i64 b)) (w : World) :
    (Op.eqFields (d + 1) xs ys (f :: fs)).run Try.prog w = if a = b then (Op.eqFields (d + 1) xs ys fs).run Try.prog w else .ok false w := by
  obtain ⟨nm, ty, of⟩ := f
  simp only [Prod.mk.injEq, bne_iff_ne] at hf
  obtain ⟨hn, rfl, rfl⟩ := hf
  have hp : Try.prog.plainKey 3 = true := by kernel_rfl
  have hu : Try.prog.underlying 3 = some (.int .i64) := rfl
  have e := run_equalIn_int (P := Try.prog) w d 3 .i64 .i64 a b hu
  rw [Op.eqFields, if_pos hn]
  simp only [Sem.run_bind, run_part_plain w hp h1, run_part_plain w hp h2, Result.andThen_ok, e]
  by_cases h : a = b
  · simp [h]
  · simp [h]
theorem wkC_key {a : Wk} (h : a.key.length = 32) (w : World) : (part 29 (wkC a).toArray 3).run Try.prog w = .ok (.agg (a.key.map u8v).toArray) w := by
  have hu : Try.prog.underlying 29 = some (.array 32 5) := rfl
  have hi : Try.prog.info? 29 = some Try.prog.types[29] := rfl
  have hs : Try.prog.types[29].size = 32 := by kernel_rfl
  have : (part 29 (wkC a).toArray 3).run Try.prog w = .ok (.agg ((wkC a).toArray.extract 3 (3 + 32))) w := by
    rw [← hs]
    simp [part, isAgg, Sem.run_bind, run_underlying hu, sizeOf, typeInfo, hi]
  rw [this]
  congr 2
  apply Array.ext'
  simp [wkC, h]
theorem eqf_key {d : Nat} {f : Field} {fs : List Field} (hf : (f.name != "_", f.type, f.offset) = (true, 29, 3)) {a b : Wk} (h1 : a.key.length = 32) (h2 : b.key.length = 32) (w : World) :
    (Op.eqFields (d + 2) (wkC a).toArray (wkC b).toArray (f :: fs)).run Try.prog w = if a.key = b.key then (Op.eqFields (d + 2) (wkC a).toArray (wkC b).toArray fs).run Try.prog w else .ok false w := by
  obtain ⟨nm, ty, of⟩ := f
  simp only [Prod.mk.injEq, bne_iff_ne] at hf
  obtain ⟨hn, rfl, rfl⟩ := hf
  rw [Op.eqFields, if_pos hn]
  simp only [Sem.run_bind, wkC_key h1, wkC_key h2, Result.andThen_ok, dig_equalIn d _ _ h1 h2]
  by_cases h : a.key = b.key
  · simp [h]
  · simp [h]
theorem eqf_nil {d : Nat} {xs ys : Array Value} (w : World) : (Op.eqFields d xs ys []).run Try.prog w = .ok true w := by simp [Op.eqFields]
theorem wk_fields_run {d : Nat} {a b : Wk} (h1 : a.key.length = 32) (h2 : b.key.length = 32) (fs : List Field)
    (hf : fs.map (fun f => (f.name != "_", f.type, f.offset)) = [(true, 3, 0), (true, 3, 1), (true, 3, 2), (true, 29, 3), (true, 3, 35), (true, 3, 36)]) (w : World) :
    (Op.eqFields (d + 2) (wkC a).toArray (wkC b).toArray fs).run Try.prog w = .ok (decide (a = b)) w := by
  obtain ⟨f1, fs, rfl, e1, hf⟩ := List.map_eq_cons_iff.1 hf
  obtain ⟨f2, fs, rfl, e2, hf⟩ := List.map_eq_cons_iff.1 hf
  obtain ⟨f3, fs, rfl, e3, hf⟩ := List.map_eq_cons_iff.1 hf
  obtain ⟨f4, fs, rfl, e4, hf⟩ := List.map_eq_cons_iff.1 hf
  obtain ⟨f5, fs, rfl, e5, hf⟩ := List.map_eq_cons_iff.1 hf
  obtain ⟨f6, fs, rfl, e6, hf⟩ := List.map_eq_cons_iff.1 hf
  obtain rfl := List.map_eq_nil_iff.1 hf
  · rw [eqf_int e1 (a := a.n) (b := b.n) rfl rfl, eqf_int e2 (a := a.st) (b := b.st) rfl rfl, eqf_int e3 (a := a.sl) (b := b.sl) rfl rfl, eqf_key e4 h1 h2,
      eqf_int e5 (a := a.ld) (b := b.ld) (by simpa using wkC_get_ld h1) (by simpa using wkC_get_ld h2), eqf_int e6 (a := a.id) (b := b.id) (by simpa using wkC_get_id h1) (by simpa using wkC_get_id h2), eqf_nil]
    rw [show decide (a = b) = decide (a.n = b.n ∧ a.st = b.st ∧ a.sl = b.sl ∧ a.key = b.key ∧ a.ld = b.ld ∧ a.id = b.id) from by simp only [wk_ext]]
    repeat' split
    all_goals simp_all
theorem wk_equalIn {d : Nat} {a b : Wk} (h1 : a.key.length = 32) (h2 : b.key.length = 32) (w : World) : (Op.equalIn (d + 3) 31 (.agg (wkC a).toArray) (.agg (wkC b).toArray)).run Try.prog w = .ok (decide (a = b)) w := by
  have ht : Try.prog.underlying 31 = some (.struct (Try.prog.fieldsOf 31)) := by kernel_rfl
  have hp : Try.prog.stoodInHeld 31 = false := by kernel_rfl
  rw [show d + 3 = d + 2 + 1 from rfl, run_equalIn_struct (P := Try.prog) w (d + 2) _ _ _ ht hp]
  exact wk_fields_run h1 h2 _ wk_fields w
theorem wk_guard (op : BinOp) (xo yo : Operand) (xs ys : Array Value) (w : World) : (eqGuard op 31 xo yo (.agg xs) (.agg ys)).run Try.prog w = .ok () w :=
  run_eqGuard_agg (P := Try.prog) w op _ xo yo xs ys (by kernel_rfl)
theorem wk_eq (xo yo : Operand) {a b : Wk} (h1 : a.key.length = 32) (h2 : b.key.length = 32) (w : World) :
    (do eqGuard .eql 31 xo yo (.agg (wkC a).toArray) (.agg (wkC b).toArray); binOp .eql 31 (.agg (wkC a).toArray) (.agg (wkC b).toArray) : Sem Value).run Try.prog w = .ok (.bool (decide (a = b))) w := by
  rw [Sem.run_bind, wk_guard, Result.andThen_ok, run_eql_struct, wk_equalIn (d := 9997) h1 h2, Result.andThen_ok]
theorem wk_ne (xo yo : Operand) {a b : Wk} (h1 : a.key.length = 32) (h2 : b.key.length = 32) (w : World) :
    (do eqGuard .neq 31 xo yo (.agg (wkC a).toArray) (.agg (wkC b).toArray); binOp .neq 31 (.agg (wkC a).toArray) (.agg (wkC b).toArray) : Sem Value).run Try.prog w = .ok (.bool (!decide (a = b))) w := by
  rw [Sem.run_bind, wk_guard, Result.andThen_ok, run_neq_struct, wk_equalIn (d := 9997) h1 h2, Result.andThen_ok]
end Go.Proofs.Ytcmjgkjnnmfijaa
