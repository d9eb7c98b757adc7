/-
  A text as bytes.
  Texts that are read are no longer than the bytes; two faults are told apart.
-/
import Derived.Test.YtkdmpdbbcgdfkaaGreatDoorJ13
import Derived.Test.YtkdmpdbbcgdfkaaGreatDoorJ19
import Derived.Great.BuildSlice
import Derived.Laws.StructEq
namespace Go.Proofs.YtkdmpdbbcgdfkaaGreatDoor
open Go Vm
set_option maxRecDepth 100000
set_option linter.unusedVariables false
set_option linter.unusedSimpArgs false
theorem conv_bs (s : List UInt8) (hs : s.length ≤ 1000000000) (h : Heap) :
    RunsV Tryz.prog (convert 9 46 (.string (bs s))) h fun u h' => RB h' u s ∧ ExtH h h' ∧ ∀ b, ob u b → h.size ≤ b := by
  intro w hw
  subst hw
  have hsz := bs_size s
  refine ⟨_, _, Lib.run_convert_string_bytes (u := .string) w 9 46 5 (bs s) (by kernel_rfl) (by kernel_rfl) (by kernel_rfl), Sx.bytes_env w 5 (bs s), ?_⟩
  have hN : Newed w.heap (Lib.bytesWorld w 5 (bs s)).heap (.cells (Lib.bytesCells w 5 (bs s)) 5 ((Lib.bytesCells w 5 (bs s)).size, (Lib.bytesCells w 5 (bs s)).size + 1)) :=
    ⟨Lib.bytesWorld_size _ _ _, Lib.bytesWorld_at_new _ _ _, fun b hb => Lib.bytesWorld_at_old _ _ _ b hb⟩
  have hge := grownCap_ge w (bs s).size 0 5
  have hle := grownCap_le_maxLen w (bs s).size 0 5 (by rw [hsz]; simp only [maxLen]; omega)
  rw [hsz] at hge hle ⊢
  have hbc : Lib.bytesCells w 5 (bs s) = ((s.map u8v) ++ List.replicate (grownCap w s.length 0 5 - s.length) (Value.int .u8 0)).toArray := by
    unfold Lib.bytesCells
    apply Array.ext'
    rw [hsz]
    simp only [Array.toList_append, Array.toList_map, Array.toList_replicate, List.toList_toArray, bs]
    rfl
  refine ⟨⟨by simp, .inr ⟨⟨w.heap.size, 0, none⟩, _, rfl, by omega, hle, rdA_plain.2 ?_⟩⟩, hN.ext, fun b hb => by rw [ob_slice] at hb; omega⟩
  have hb : Sx.BlkF (Lib.bytesWorld w 5 (bs s)).heap w.heap.size ((s.map u8v) ++ List.replicate (grownCap w s.length 0 5 - s.length) (Value.int .u8 0)) 5 := ⟨_, by rw [← hbc]; exact hN.new⟩
  intro j v hj
  rw [Nat.zero_add]
  refine hb.rd ?_
  rw [List.getElem?_append_left (by have := (List.getElem?_eq_some_iff.1 hj).1; simpa using this)]
  exact hj
theorem fill_one {k : Nat} (hk : 0 < k) (v : Value) (hv : v.cells.size = k) (cells : Array Value) (hc : cells.size = k) : Instr.fill (fun i => some (i * k, k)) cells [(0, v)] = some v.cells := by
  obtain ⟨r, hr, h1, h2⟩ := Great.fill_dense hk [v] 0 cells (fun u hu => by simp at hu; rw [hu]; exact hv) (by simp; omega)
  have e : r = v.cells := by
    apply Array.ext_getElem?
    intro i
    rw [h2 i]
    by_cases hi : i < k
    · rw [if_pos (by simp; omega)]
      simp [Nat.div_eq_of_lt hi, Nat.mod_eq_of_lt hi]
    · rw [if_neg (by simp; omega), Array.getElem?_eq_none (by omega), Array.getElem?_eq_none (by omega)]
  rw [← e]
  exact hr
theorem build_one {P : Program} {t e : TypeId} {ie : TypeInfo} {z v : Value} (hu : P.underlying t = some (.slice e)) (hie : P.info? e = some ie) (hz : ie.zero = some z) (h0 : 0 < ie.size) (h1 : ie.size ≤ 2 ^ 24) (hv : v.cells.size = ie.size) (w : World) :
    (Instr.buildSlice t 1 #[(0, v)]).run P w = .ok (.slice (some ⟨w.heap.size, 0, none⟩) 1 1) (w.alloc (.cells v.cells e)) :=
  run_buildSlice w t e 1 #[(0, v)] v.cells ie z hu hie hz (by omega) (by omega) (fill_one h0 v hv _ (by simp))
theorem build_se {s : Cd.Se} (hd : s.dig.length = 32) (wd : World) : (Instr.buildSlice 25 1 #[(0, .agg (seC s).toArray)]).run Tryz.prog wd = .ok (.slice (some ⟨wd.heap.size, 0, none⟩) 1 1) (wd.alloc (.cells (seC s).toArray 55)) := by
  obtain ⟨i0, hi, hz0, hz1, hz2⟩ := info_parts infoSe
  exact build_one (P := Tryz.prog) (t := 25) (e := 55) (v := .agg (seC s).toArray) (by kernel_rfl) hi hz0 (by omega) (by omega) (by rw [hz1]; exact seC_len hd) wd
theorem copy_dig {h : Heap} {b : Nat} {t : TypeId} {s : Cd.Se} {x : Value} {m : List UInt8} {ty : TypeId} (hb : Blk h b (seC s) t) (hd : s.dig.length = 32) (r : RB h x m) (hm : m.length ≤ 32) :
    RunsV Tryz.prog (Builtin.copy_ #[46, 46] ty #[.slice (some ⟨b, 3, none⟩) 32 32, x]) h fun u h' => Blk h' b (seC { s with dig := m ++ s.dig.drop m.length }) t ∧ Chg (fun y => y = b) h h' := by
  intro w hw
  subst hw
  have hi : (Tryz.prog.info? 5).map (·.size) = some 1 := by kernel_rfl
  obtain ⟨xa, xc, hxe, _⟩ := Vm.Src.form r
  rcases r.cases with ⟨hx, hm0⟩ | ⟨A, cx, hx, hcx, _, hr⟩
  · subst hm0
    subst hx
    exact ⟨_, w, run_copy_none (P := Tryz.prog) w _ 46 ty 5 _ none 32 32 0 0 Tryz.underlying46 hi (Nat.zero_min _), SameEnv.refl w, by simpa using hb, ⟨Nat.le_refl _, fun _ _ _ => rfl⟩⟩
  · subst hx
    have hrun := run_copy_row (P := Tryz.prog) w 46 46 ty 5 b 3 32 32 A m.length cx (seC s).toArray t (m.map u8v) Tryz.underlying46 hi hb
      (by rw [List.length_map]; exact (Nat.min_eq_left hm).symm) (fun j u hu => by rw [cell_eq_rd]; exact hr j u hu) (by simp [seC, hd]; omega) (one8 m)
    have hw := heap_setRow w b (((seC s).toArray.toList.take 3 ++ m.map u8v ++ (seC s).toArray.toList.drop (3 + (m.map u8v).length)).toArray) (seC s).toArray t hb
    have ecells : (seC s).toArray.toList.take 3 ++ m.map u8v ++ (seC s).toArray.toList.drop (3 + (m.map u8v).length) = seC { s with dig := m ++ s.dig.drop m.length } := by
      simp only [List.toList_toArray, seC, List.length_map, List.map_append, List.map_drop]
      rw [List.take_left' (by rfl), List.append_assoc]
      congr 2
      rw [← List.drop_drop]
      rfl
    refine ⟨_, _, hrun, ⟨rfl, rfl, rfl⟩, ?_, hw.chg⟩
    have hn := hw.new
    simp only [ecells] at hn ⊢
    exact hn
end Go.Proofs.YtkdmpdbbcgdfkaaGreatDoor
namespace Go.Proofs.YtkdmpdbbcgdfkaaGreatDoor.Cd
open Go
theorem text_len (l : List UInt8) (most : Nat) (st : St) : (text l most st).1.length ≤ l.length := by
  unfold text
  cases st with
  | none => simp
  | some p =>
    simp only
    split
    · simp only [List.length_take, List.length_drop]; omega
    · simp
theorem texts_lens (l : List UInt8) (each : Nat) : ∀ (n : Nat) (st : St), ∀ s ∈ (texts l each n st).1, s.length ≤ l.length
  | 0, st => by intro s hs; simp [texts] at hs
  | n + 1, st => by
    intro s hs
    have h1 := text_len l each st
    have h2 := texts_lens l each n (text l each st).2
    have e : (texts l each (n + 1) st).1 = (text l each st).1 :: (texts l each n (text l each st).2).1 := rfl
    rw [e] at hs
    rcases List.mem_cons.1 hs with rfl | hs
    · exact h1
    · exact h2 s hs
theorem list_lens (l : List UInt8) (most each : Nat) (st : St) : ∀ s ∈ (list l most each st).1, s.length ≤ l.length := by
  intro s hs
  have h := texts_lens l each (count l most st).1 (count l most st).2
  unfold list at hs
  simp only at hs
  generalize texts l each (count l most st).1 (count l most st).2 = tt at hs h
  obtain ⟨xs, _ | p⟩ := tt
  · simp at hs
  · exact h s hs
end Go.Proofs.YtkdmpdbbcgdfkaaGreatDoor.Cd
namespace Go.Proofs.YtkdmpdbbcgdfkaaGreatDoor
open Go Vm
theorem flt_neq {e a e' a' : Int} (he : (Lit.int .i64 e).wf = true) (ha : (Lit.int .i64 a).wf = true) (he' : (Lit.int .i64 e').wf = true) (ha' : (Lit.int .i64 a').wf = true) (xo yo : Operand) (w : World) :
    (do eqGuard .neq 38 xo yo (.agg (fltC e a).toArray) (.agg (fltC e' a').toArray); binOp .neq 38 (.agg (fltC e a).toArray) (.agg (fltC e' a').toArray) : Sem Value).run Tryz.prog w = .ok (.bool !(decide (e = e' ∧ a = a'))) w :=
  neq_lits (m := 3) (by kernel_rfl) (by decide) (by kernel_rfl) (flt_formed e a) (flt_formed e' a') (flt_lits he ha) (flt_lits he' ha') (by simp) xo yo w
end Go.Proofs.YtkdmpdbbcgdfkaaGreatDoor
