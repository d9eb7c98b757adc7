/-
  A structure is itself: diagnostics, reads.
  The document's Same: equal answers are the same.
  Maps, calls, and all the operations that make or write memory.
-/
import Derived.Test.YtkdmpdbbcgdfkaaGreatDoorJ20
import Derived.ChangeKeysEq
import Derived.Laws.StructEq
import Derived.Test.YtkdmpdbbcgdfkaaGreatDoorJ19
namespace Go.Proofs.YtkdmpdbbcgdfkaaGreatDoor
open Go Vm
set_option maxRecDepth 100000
set_option linter.unusedVariables false
set_option linter.unusedSimpArgs false
theorem Cd.eqf_self {d : Nat} {f : Field} {fs : List Field} {o : Nat} {ty : TypeId} {v : Value} {xs : Array Value} (hf : (f.name != "_", f.type, f.offset) = (true, ty, o)) (hx : ∀ w, (part ty xs o).run Tryz.prog w = .ok v w)
    (he : ∀ w, (Op.equalIn d ty v v).run Tryz.prog w = .ok true w) (w : World) : (Op.eqFields d xs xs (f :: fs)).run Tryz.prog w = (Op.eqFields d xs xs fs).run Tryz.prog w := by
  obtain ⟨nm, ty', of⟩ := f
  simp only [Prod.mk.injEq, bne_iff_ne] at hf
  obtain ⟨hn, rfl, rfl⟩ := hf
  rw [Op.eqFields, if_pos hn]
  simp only [Sem.run_bind, hx, Result.andThen_ok, he]
  simp
theorem Cd.int_self (d : Nat) (t : TypeId) (k : IntKind) (a : Int) (h : Tryz.prog.underlying t = some (.int k)) (w : World) : (Op.equalIn (d + 1) t (.int k a) (.int k a)).run Tryz.prog w = .ok true w := by
  rw [run_equalIn_int (P := Tryz.prog) w d t k k a a h]; simp
theorem Cd.str_self (d : Nat) (s : ByteArray) (w : World) : (Op.equalIn (d + 1) 9 (.string s) (.string s)).run Tryz.prog w = .ok true w := by
  rw [run_equalIn_string (P := Tryz.prog) w d 9 s s rfl]; simp
theorem Cd.dig_self (d : Nat) (l : List UInt8) (h1 : l.length = 32) (w : World) : (Op.equalIn (d + 2) 53 (.agg (l.map u8v).toArray) (.agg (l.map u8v).toArray)).run Tryz.prog w = .ok true w := by
  have ht : Tryz.prog.underlying 53 = some (.array 32 5) := by kernel_rfl
  have hi : Tryz.prog.info? 5 = some Tryz.prog.types[5] := rfl
  have hc : Tryz.prog.cellsOf 5 = 1 := by kernel_rfl
  have hu : Tryz.prog.underlying 5 = some (.int .u8) := by kernel_rfl
  have hp : Tryz.prog.plainKey 5 = true := by kernel_rfl
  have hm : l.map u8v = (l.map (fun b => (b.toNat : Int))).map (Value.int .u8) := by rw [List.map_map]; rfl
  rw [hm]
  rw [show d + 2 = d + 1 + 1 from rfl, run_equalIn_array (P := Tryz.prog) w (d + 1) _ _ ht hi, hc, run_eqItems_ints hu hp d _ _ w _ (fun i hi => by rw [List.mem_range] at hi; simp only [List.length_map]; omega), all_range_eq 32 _ _ (by simpa using h1) (by simpa using h1)]
  simp
theorem dg_fields : (Tryz.prog.fieldsOf 50).toList.map (fun f => (f.name != "_", f.type, f.offset)) = [(true, 9, 0), (true, 22, 1), (true, 3, 2)] := by kernel_rfl
theorem se_fields : (Tryz.prog.fieldsOf 55).toList.map (fun f => (f.name != "_", f.type, f.offset)) = [(true, 9, 0), (true, 3, 1), (true, 3, 2), (true, 53, 3)] := by kernel_rfl
theorem dg_self_run {D : Nat} (d : Cd.Dg) (fs : List Field) (hf : fs.map (fun f => (f.name != "_", f.type, f.offset)) = [(true, 9, 0), (true, 22, 1), (true, 3, 2)]) (w : World) :
    (Op.eqFields (D + 1) (dgC d).toArray (dgC d).toArray fs).run Tryz.prog w = .ok true w := by
  obtain ⟨f1, fs, rfl, e1, hf⟩ := List.map_eq_cons_iff.1 hf
  obtain ⟨f2, fs, rfl, e2, hf⟩ := List.map_eq_cons_iff.1 hf
  obtain ⟨f3, fs, rfl, e3, hf⟩ := List.map_eq_cons_iff.1 hf
  obtain rfl := List.map_eq_nil_iff.1 hf
  rw [Cd.eqf_self e1 (fun w => run_part_plain (P := Tryz.prog) w (by kernel_rfl) (v := strv d.path) rfl) (Cd.str_self D _),
    Cd.eqf_self e2 (fun w => run_part_plain (P := Tryz.prog) w (by kernel_rfl) (v := .int .i64 d.why) rfl) (Cd.int_self D _ _ _ (by kernel_rfl)),
    Cd.eqf_self e3 (fun w => run_part_plain (P := Tryz.prog) w (by kernel_rfl) (v := .int .i64 d.at_) rfl) (Cd.int_self D _ _ _ (by kernel_rfl))]
  simp [Op.eqFields]
theorem dg_ne (xo yo : Operand) (d : Cd.Dg) (w : World) :
    (do eqGuard .neq 50 xo yo (.agg (dgC d).toArray) (.agg (dgC d).toArray); binOp .neq 50 (.agg (dgC d).toArray) (.agg (dgC d).toArray) : Sem Value).run Tryz.prog w = .ok (.bool false) w := by
  have ht : Tryz.prog.underlying 50 = some (.struct (Tryz.prog.fieldsOf 50)) := by kernel_rfl
  have hp : Tryz.prog.stoodInHeld 50 = false := by kernel_rfl
  have hg : (eqGuard .neq 50 xo yo (.agg (dgC d).toArray) (.agg (dgC d).toArray)).run Tryz.prog w = .ok () w := run_eqGuard_agg (P := Tryz.prog) w .neq _ xo yo _ _ (by kernel_rfl)
  rw [Sem.run_bind, hg, Result.andThen_ok, run_neq_struct, show 10000 = 9999 + 1 from rfl, run_equalIn_struct (P := Tryz.prog) w 9999 _ _ _ ht hp, show 9999 = 9998 + 1 from rfl, dg_self_run d _ dg_fields, Result.andThen_ok]
  rfl
theorem se_part {s : Cd.Se} (h : s.dig.length = 32) (w : World) : (part 53 (seC s).toArray 3).run Tryz.prog w = .ok (.agg (s.dig.map u8v).toArray) w := by
  have hu : Tryz.prog.underlying 53 = some (.array 32 5) := by kernel_rfl
  have hi : Tryz.prog.info? 53 = some Tryz.prog.types[53] := rfl
  have hs : Tryz.prog.types[53].size = 32 := by kernel_rfl
  have : (part 53 (seC s).toArray 3).run Tryz.prog w = .ok (.agg ((seC s).toArray.extract 3 (3 + 32))) w := by
    rw [← hs]
    simp [part, isAgg, Sem.run_bind, run_underlying hu, sizeOf, typeInfo, hi]
  rw [this]
  congr 2
  apply Array.ext'
  simp [seC]
  rw [List.take_of_length_le (by simp [h])]
theorem se_self_run {D : Nat} {s : Cd.Se} (h : s.dig.length = 32) (fs : List Field) (hf : fs.map (fun f => (f.name != "_", f.type, f.offset)) = [(true, 9, 0), (true, 3, 1), (true, 3, 2), (true, 53, 3)]) (w : World) :
    (Op.eqFields (D + 2) (seC s).toArray (seC s).toArray fs).run Tryz.prog w = .ok true w := by
  obtain ⟨f1, fs, rfl, e1, hf⟩ := List.map_eq_cons_iff.1 hf
  obtain ⟨f2, fs, rfl, e2, hf⟩ := List.map_eq_cons_iff.1 hf
  obtain ⟨f3, fs, rfl, e3, hf⟩ := List.map_eq_cons_iff.1 hf
  obtain ⟨f4, fs, rfl, e4, hf⟩ := List.map_eq_cons_iff.1 hf
  obtain rfl := List.map_eq_nil_iff.1 hf
  rw [Cd.eqf_self e1 (fun w => run_part_plain (P := Tryz.prog) w (by kernel_rfl) (v := strv s.path) rfl) (Cd.str_self (D + 1) _),
    Cd.eqf_self e2 (fun w => run_part_plain (P := Tryz.prog) w (by kernel_rfl) (v := .int .i64 s.what) rfl) (Cd.int_self (D + 1) _ _ _ (by kernel_rfl)),
    Cd.eqf_self e3 (fun w => run_part_plain (P := Tryz.prog) w (by kernel_rfl) (v := .int .i64 s.kind) rfl) (Cd.int_self (D + 1) _ _ _ (by kernel_rfl)),
    Cd.eqf_self e4 (se_part h) (Cd.dig_self D _ h)]
  simp [Op.eqFields]
theorem se_ne (xo yo : Operand) {s : Cd.Se} (h : s.dig.length = 32) (w : World) :
    (do eqGuard .neq 55 xo yo (.agg (seC s).toArray) (.agg (seC s).toArray); binOp .neq 55 (.agg (seC s).toArray) (.agg (seC s).toArray) : Sem Value).run Tryz.prog w = .ok (.bool false) w := by
  have ht : Tryz.prog.underlying 55 = some (.struct (Tryz.prog.fieldsOf 55)) := by kernel_rfl
  have hp : Tryz.prog.stoodInHeld 55 = false := by kernel_rfl
  have hg : (eqGuard .neq 55 xo yo (.agg (seC s).toArray) (.agg (seC s).toArray)).run Tryz.prog w = .ok () w := run_eqGuard_agg (P := Tryz.prog) w .neq _ xo yo _ _ (by kernel_rfl)
  rw [Sem.run_bind, hg, Result.andThen_ok, run_neq_struct, show 10000 = 9999 + 1 from rfl, run_equalIn_struct (P := Tryz.prog) w 9999 _ _ _ ht hp, show 9999 = 9997 + 2 from rfl, se_self_run h _ se_fields, Result.andThen_ok]
  rfl
end Go.Proofs.YtkdmpdbbcgdfkaaGreatDoor
namespace Go.Proofs.YtkdmpdbbcgdfkaaGreatDoor
open Go Vm
set_option maxRecDepth 100000
set_option linter.unusedVariables false
set_option linter.unusedSimpArgs false
theorem samedg_fn {h : Heap} {av bv : Value} {l : List Cd.Dg} (ra : RDg h av l) (rb : RDg h bv l) (hl : l.length ≤ 1000000000) : Fx Tryz.prog 42 #[av, bv] h fun u h' => u = .bool true ∧ ExtH h h' := by
  obtain ⟨aa, ac, hae, _⟩ := Vm.Src.form ra
  obtain ⟨ba, bc, hbe, _⟩ := Vm.Src.form rb
  subst hae hbe
  refine fn_of 26 Tryz.func42 rfl (by kernel_rfl) rfl (by simp) ?_
  refine cw_seq (cw_go rfl ?_)
  conv => whnf
  refine cw_seq (cw_seq (cw_go rfl ?_))
  conv => whnf
  refine say_f (by omega) ?_
  conv => whnf
  refine cw_false rfl (cw_skip ?_)
  refine cw_seq (cw_seq (cw_go rfl ?_))
  conv => whnf
  refine cw_block ?_
  refine cw_loop (S := Nat) (fun t => [(0, .slice aa l.length ac), (1, .slice ba l.length bc), (5, .int .i64 (t : Int))])
    (fun t h' => t ≤ l.length ∧ ExtH h h') (fun t => l.length - t) 0 ⟨rfl, rfl, rfl, trivial⟩ ⟨by omega, ExtH.refl _⟩ ?_
  rintro t h1 ⟨ht, x1⟩
  refine cw_seq (cw_seq (cw_go rfl ?_))
  conv => whnf
  refine say_d (fun hg => ?_) (fun hg => ?_)
  · refine cw_true rfl (cw_skip ?_)
    have hlt : t < l.length := by omega
    obtain ⟨g, o, e1, hr⟩ := (ra.more x1).get t hlt
    obtain ⟨g', o', e2, hr'⟩ := (rb.more x1).get t hlt
    subst e1 e2
    refine cw_seq (cw_block ?_)
    refine cw_seq (cw_dgo (by kernel_rfl) 8 (List.range 8) (by kernel_rfl) rfl ?_)
    conv => whnf
    refine And.intro ⟨by omega, by omega⟩ ?_
    conv => whnf
    refine ⟨dgC _, rfl, by exact hr, ?_⟩
    conv => whnf
    refine And.intro ⟨by omega, by omega⟩ ?_
    conv => whnf
    refine ⟨dgC _, rfl, by exact hr', ?_⟩
    conv => whnf
    intro h2 x2
    conv => whnf
    refine ⟨.bool false, fun wd => dg_ne _ _ _ wd, ?_⟩
    conv => whnf
    refine cw_false rfl (cw_skip ?_)
    refine cw_go rfl ?_
    conv => whnf
    refine say_i (by omega) ?_
    conv => whnf
    refine ⟨t + 1, ⟨rfl, rfl, by simp only []; rw [show ((t + 1 : Nat) : Int) = (t : Int) + 1 by push_cast; rfl]; rfl, trivial⟩, ⟨by omega, x1.trans x2⟩, by show l.length - (t + 1) < l.length - t; omega⟩
  · refine cw_false rfl (cw_exit ?_)
    refine cw_seq (cw_go rfl ?_)
    conv => whnf
    exact cw_ret ⟨rfl, x1⟩

theorem samese_fn {h : Heap} {av bv : Value} {l : List Cd.Se} (ra : RSe h av l) (rb : RSe h bv l) (hl : l.length ≤ 1000000000) : Fx Tryz.prog 43 #[av, bv] h fun u h' => u = .bool true ∧ ExtH h h' := by
  obtain ⟨aa, ac, hae, _⟩ := Vm.Src.form ra.1
  obtain ⟨ba, bc, hbe, _⟩ := Vm.Src.form rb.1
  subst hae hbe
  have hd : ∀ t, t < l.length → (l.getD t se0).dig.length = 32 := fun t ht => ra.2 _ (by rw [List.getD_eq_getElem?_getD, List.getElem?_eq_getElem ht]; exact List.getElem_mem ht)
  refine fn_of 26 Tryz.func43 rfl (by kernel_rfl) rfl (by simp) ?_
  refine cw_seq (cw_go rfl ?_)
  conv => whnf
  refine cw_seq (cw_seq (cw_go rfl ?_))
  conv => whnf
  refine say_f (by omega) ?_
  conv => whnf
  refine cw_false rfl (cw_skip ?_)
  refine cw_seq (cw_seq (cw_go rfl ?_))
  conv => whnf
  refine cw_block ?_
  refine cw_loop (S := Nat) (fun t => [(0, .slice aa l.length ac), (1, .slice ba l.length bc), (5, .int .i64 (t : Int))])
    (fun t h' => t ≤ l.length ∧ ExtH h h') (fun t => l.length - t) 0 ⟨rfl, rfl, rfl, trivial⟩ ⟨by omega, ExtH.refl _⟩ ?_
  rintro t h1 ⟨ht, x1⟩
  refine cw_seq (cw_seq (cw_go rfl ?_))
  conv => whnf
  refine say_d (fun hg => ?_) (fun hg => ?_)
  · refine cw_true rfl (cw_skip ?_)
    have hlt : t < l.length := by omega
    obtain ⟨g, o, e1, hr⟩ := (ra.more x1).get t hlt
    obtain ⟨g', o', e2, hr'⟩ := (rb.more x1).get t hlt
    subst e1 e2
    refine cw_seq (cw_block ?_)
    refine cw_seq (cw_dgo (by kernel_rfl) 8 (List.range 8) (by kernel_rfl) rfl ?_)
    conv => whnf
    refine And.intro ⟨by omega, by omega⟩ ?_
    conv => whnf
    refine ⟨seC _, seC_len (hd t hlt), by exact hr, ?_⟩
    conv => whnf
    refine And.intro ⟨by omega, by omega⟩ ?_
    conv => whnf
    refine ⟨seC _, seC_len (hd t hlt), by exact hr', ?_⟩
    conv => whnf
    intro h2 x2
    conv => whnf
    refine ⟨.bool false, fun wd => se_ne _ _ (hd t hlt) wd, ?_⟩
    conv => whnf
    refine cw_false rfl (cw_skip ?_)
    refine cw_go rfl ?_
    conv => whnf
    refine say_i (by omega) ?_
    conv => whnf
    refine ⟨t + 1, ⟨rfl, rfl, by simp only []; rw [show ((t + 1 : Nat) : Int) = (t : Int) + 1 by push_cast; rfl]; rfl, trivial⟩, ⟨by omega, x1.trans x2⟩, by show l.length - (t + 1) < l.length - t; omega⟩
  · refine cw_false rfl (cw_exit ?_)
    refine cw_seq (cw_go rfl ?_)
    conv => whnf
    exact cw_ret ⟨rfl, x1⟩

theorem sametx_fn {h : Heap} {av bv : Value} {l : List (List UInt8)} (ra : RT h av l) (rb : RT h bv l) (hl : l.length ≤ 1000000000) : Fx Tryz.prog 7 #[av, bv] h fun u h' => u = .bool true ∧ ExtH h h' := by
  obtain ⟨aa, ac, hae, _⟩ := ra.fix
  obtain ⟨ba, bc, hbe, _⟩ := rb.fix
  subst hae hbe
  refine fn_of 26 Tryz.func7 rfl (by kernel_rfl) rfl (by simp) ?_
  refine cw_seq (cw_go rfl ?_)
  conv => whnf
  refine cw_seq (cw_seq (cw_go rfl ?_))
  conv => whnf
  refine say_f (by omega) ?_
  conv => whnf
  refine cw_false rfl (cw_skip ?_)
  refine cw_seq (cw_seq (cw_go rfl ?_))
  conv => whnf
  refine cw_block ?_
  refine cw_loop (S := Nat) (fun t => [(0, .slice aa l.length ac), (1, .slice ba l.length bc), (5, .int .i64 (t : Int))])
    (fun t h' => t ≤ l.length ∧ ExtH h h') (fun t => l.length - t) 0 ⟨rfl, rfl, rfl, trivial⟩ ⟨by omega, ExtH.refl _⟩ ?_
  rintro t h1 ⟨ht, x1⟩
  refine cw_seq (cw_seq (cw_go rfl ?_))
  conv => whnf
  refine say_d (fun hg => ?_) (fun hg => ?_)
  · refine cw_true rfl (cw_skip ?_)
    have hlt : t < l.length := by omega
    obtain ⟨g, o, e1, hr⟩ := (ra.more x1).get t hlt
    obtain ⟨g', o', e2, hr'⟩ := (rb.more x1).get t hlt
    subst e1 e2
    refine cw_seq (cw_block ?_)
    refine cw_seq (cw_dgo (by kernel_rfl) 8 (List.range 8) (by kernel_rfl) rfl ?_)
    conv => whnf
    refine And.intro ⟨by omega, by omega⟩ ?_
    conv => whnf
    refine ⟨_, by exact hr, ?_⟩
    conv => whnf
    refine And.intro ⟨by omega, by omega⟩ ?_
    conv => whnf
    refine ⟨_, by exact hr', ?_⟩
    conv => whnf
    intro h2 x2
    conv => whnf
    refine say_sne (fun hne => (hne rfl).elim) (fun _ => ?_)
    conv => whnf
    refine cw_false rfl (cw_skip ?_)
    refine cw_go rfl ?_
    conv => whnf
    refine say_i (by omega) ?_
    conv => whnf
    refine ⟨t + 1, ⟨rfl, rfl, by simp only []; rw [show ((t + 1 : Nat) : Int) = (t : Int) + 1 by push_cast; rfl]; rfl, trivial⟩, ⟨by omega, x1.trans x2⟩, by show l.length - (t + 1) < l.length - t; omega⟩
  · refine cw_false rfl (cw_exit ?_)
    refine cw_seq (cw_go rfl ?_)
    conv => whnf
    exact cw_ret ⟨rfl, x1⟩

end Go.Proofs.YtkdmpdbbcgdfkaaGreatDoor
namespace Go.Proofs.YtkdmpdbbcgdfkaaGreatDoor.Sx
open Go Vm
set_option linter.unusedSimpArgs false
set_option linter.unusedVariables false
section
variable {C : Cx} (hC : CxOk C) {ng : Nat} {st : St} {σ : Env} {h : Heap} {sf : SF} {fr : Fr} {β : Type} {k : SV → St → Option β} {r : β}
theorem denM_cons {a b : SV} {es : List (SV × SV)} {m : MapEntry} {mes : List MapEntry} : denM σ ((a, b) :: es) (m :: mes) ↔ (den σ a = some m.key ∧ den σ b = some m.val) ∧ denM σ es mes := by
  unfold denM
  simp only [List.map_cons, denL, Option.bind_eq_some_iff, Option.map_eq_some_iff, List.cons.injEq]
  constructor
  · rintro ⟨⟨x, h1, y, h2, rfl, rfl⟩, ⟨z, h3, u, h4, rfl, rfl⟩⟩
    exact ⟨⟨h1, h3⟩, h2, h4⟩
  · rintro ⟨⟨h1, h3⟩, h2, h4⟩
    exact ⟨⟨_, h1, _, h2, rfl, rfl⟩, ⟨_, h3, _, h4, rfl, rfl⟩⟩
theorem denM_nil {mes : List MapEntry} : denM σ [] mes ↔ mes = [] := by
  unfold denM
  simp only [List.map_nil, denL, Option.some.injEq]
  constructor
  · rintro ⟨h, _⟩; simpa using h.symm
  · rintro rfl; simp
theorem upS_ok {d : TypeDesc} {kk vv : SV} {kv v : Value} (hk : keyK d kk) (hd : den σ kk = some kv) (hv : den σ vv = some v) : ∀ (es es' : List (SV × SV)) (mes : List MapEntry) (i : Nat), denM σ es mes → upS kk vv es = some es' →
    (Instr.findNow d kv mes i = some none ∧ (∀ x ∈ mes, x.key ≠ kv) ∧ ∀ m : MapEntry, m.key = kv → m.val = v → denM σ es' (mes ++ [m])) ∨
    ∃ j u, Instr.findNow d kv mes i = some (some (i + j, u)) ∧ (mes[j]?).map (·.key) = some kv ∧ denM σ es' (mes.modify j fun e => { e with key := kv, val := v })
  | [], es', mes, i, hm, e => by
    rw [denM_nil] at hm
    subst hm
    simp only [upS, Option.some.injEq] at e
    subst e
    exact .inl ⟨rfl, by simp, fun m h1 h2 => by rw [List.nil_append, denM_cons]; exact ⟨⟨h1 ▸ hd, h2 ▸ hv⟩, denM_nil.2 rfl⟩⟩
  | (k', u) :: es, es', mes, i, hm, e => by
    cases mes with
    | nil => unfold denM at hm; simp only [List.map_cons, denL, Option.bind_eq_some_iff, Option.map_eq_some_iff] at hm; obtain ⟨⟨_, _, _, _, h⟩, _⟩ := hm; simp at h
    | cons m mes =>
      rw [denM_cons] at hm
      obtain ⟨⟨hk', hu⟩, hm⟩ := hm
      have rest : ∀ es2, upS kk vv es = some es2 → es' = (k', u) :: es2 → Instr.sameNow d kv m.key = some false →
          (Instr.findNow d kv (m :: mes) i = some none ∧ (∀ x ∈ m :: mes, x.key ≠ kv) ∧ ∀ m2 : MapEntry, m2.key = kv → m2.val = v → denM σ es' ((m :: mes) ++ [m2])) ∨
          ∃ j u, Instr.findNow d kv (m :: mes) i = some (some (i + j, u)) ∧ ((m :: mes)[j]?).map (·.key) = some kv ∧ denM σ es' ((m :: mes).modify j fun e => { e with key := kv, val := v }) := by
        intro es2 e2 he hs
        subst he
        rcases upS_ok hk hd hv es es2 mes (i + 1) hm e2 with ⟨g1, g0, g2⟩ | ⟨j, x, g1, g2, g3⟩
        · refine .inl ⟨by simp only [Instr.findNow, hs]; exact g1, ?_, fun m2 h1 h2 => ?_⟩
          · intro x hx
            rcases List.mem_cons.1 hx with rfl | hx
            · rintro rfl
              rcases hk with ⟨rfl, l, rfl⟩ | ⟨b, n, rfl, rfl⟩
              · obtain ⟨_, hxk⟩ := den_s hd
                rw [hxk] at hs
                have : (bytesOf l == bytesOf l) = true := (MapKept.bytes_beq _ _).2 rfl
                simp only [Instr.sameNow, this] at hs
                cases hs
              · have hxk := den_i hd
                rw [hxk] at hs
                simp [Instr.sameNow] at hs
            · exact g0 x hx
          rw [List.cons_append, denM_cons]
          exact ⟨⟨hk', hu⟩, g2 m2 h1 h2⟩
        · refine .inr ⟨j + 1, x, by simp only [Instr.findNow, hs, g1]; congr 3; omega, by simpa using g2, ?_⟩
          rw [List.modify_succ_cons, denM_cons]
          exact ⟨⟨hk', hu⟩, g3⟩
      have here : Instr.sameNow d kv m.key = some true → es' = (kk, vv) :: es →
          (Instr.findNow d kv (m :: mes) i = some none ∧ (∀ x ∈ m :: mes, x.key ≠ kv) ∧ ∀ m2 : MapEntry, m2.key = kv → m2.val = v → denM σ es' ((m :: mes) ++ [m2])) ∨
          ∃ j u, Instr.findNow d kv (m :: mes) i = some (some (i + j, u)) ∧ ((m :: mes)[j]?).map (·.key) = some kv ∧ denM σ es' ((m :: mes).modify j fun e => { e with key := kv, val := v }) := by
        intro hs he
        subst he
        have hkey : m.key = kv := by
          rcases hk with ⟨rfl, l, rfl⟩ | ⟨b, n, rfl, rfl⟩
          · obtain ⟨_, rfl⟩ := den_s hd
            cases hmk : m.key <;> simp [hmk, Instr.sameNow] at hs
            exact congrArg _ ((MapKept.bytes_beq _ _).1 (by simpa using hs)).symm
          · have := den_i hd; subst this
            cases hmk : m.key <;> simp [hmk, Instr.sameNow] at hs
            obtain ⟨rfl, rfl⟩ := hs; rfl
        refine .inr ⟨0, m.val, by simp only [Instr.findNow, hs]; rfl, by simp [hkey], ?_⟩
        rw [List.modify_zero_cons, denM_cons]
        exact ⟨⟨hd, hv⟩, hm⟩
      rcases hk with ⟨rfl, l, rfl⟩ | ⟨b, n, rfl, rfl⟩
      · obtain ⟨al, rfl⟩ := den_s hd
        cases k' <;> simp only [upS] at e <;> first
          | (cases e; done)
          | skip
        rename_i l'
        obtain ⟨al', hk''⟩ := den_s hk'
        rw [hk''] at rest here
        simp only [Instr.sameNow, bytes_beq al al'] at rest here
        split at e
        · rename_i hq
          cases e
          exact here (by rw [hq]) rfl
        · rename_i hq
          simp only [Option.map_eq_some_iff] at e
          obtain ⟨es2, e2, e3⟩ := e
          exact rest es2 e2 e3.symm (by simpa using hq)
      · have := den_i hd; subst this
        cases k' <;> simp only [upS] at e <;> first
          | (cases e; done)
          | skip
        rename_i b' n'
        have hk'' := den_i hk'
        rw [hk''] at rest here
        split at e
        · rename_i hb
          subst hb
          simp only [Instr.sameNow, if_true] at rest here
          split at e
          · rename_i hq; subst hq; cases e; exact here (by simp) rfl
          · rename_i hq
            simp only [Option.map_eq_some_iff] at e
            obtain ⟨es2, e2, e3⟩ := e
            exact rest es2 e2 e3.symm (by simp [hq])
        · cases e
theorem update_none {P : Program} {t kt et : TypeId} {d : TypeDesc} (ht : P.underlying t = some (.map kt et)) (hk : P.underlying kt = some d) {kv v : Value} (hkey : MapKept.IsKey d kv) {w : World} {b c : Nat} {es : Array MapEntry} (hb : w.heap[b]? = some (.map es c)) (hf : Instr.findNow d kv es.toList 0 = some none) :
    (Instr.mapUpdate t (.map (some b)) kv v).run P w = .ok () { w with heap := w.heap.setIfInBounds b (.map (es.push { key := kv, val := v, born := c }) (c + 1)) } := by
  have hc := MapKept.run_checkKey (P := P) (w := w) hk hkey false 9999
  have hfk := MapKept.run_findKey (P := P) (w := w) hk hf
  simp [Instr.mapUpdate, run_underlying ht, MapKept.run_getObj_map hb, hc, hfk, MapKept.run_setObj_map _ hb, Result.andThen]
theorem update_some {P : Program} {t kt et : TypeId} {d : TypeDesc} (ht : P.underlying t = some (.map kt et)) (hk : P.underlying kt = some d) {kv v u : Value} (hkey : MapKept.IsKey d kv) {w : World} {b c j : Nat} {es : Array MapEntry} (hb : w.heap[b]? = some (.map es c)) (hf : Instr.findNow d kv es.toList 0 = some (some (j, u)))
    (hj : (es.toList[j]?).map (·.key) = some kv) :
    (Instr.mapUpdate t (.map (some b)) kv v).run P w = .ok () { w with heap := w.heap.setIfInBounds b (.map (es.modify j fun e => { e with key := kv, val := v }) c) } := by
  have hc := MapKept.run_checkKey (P := P) (w := w) hk hkey false 9999
  have hfk := MapKept.run_findKey (P := P) (w := w) hk hf
  have hks : (Instr.keyThatStays (((es[j]?).map (·.key)).getD kv) kv).run P w = .ok kv w := by
    have : ((es[j]?).map (·.key)).getD kv = kv := by rw [← Array.getElem?_toList, hj]; rfl
    rw [this]
    exact MapKept.run_keyThatStays (d := d) hkey
  simp [Instr.mapUpdate, run_underlying ht, MapKept.run_getObj_map hb, hc, hfk, hks, MapKept.run_setObj_map _ hb, Result.andThen]
include hC in
theorem updS_ok (H : Rep ng st σ h) {t : Nat} {m x y : SV} {mv xv yv : Value} (e : C.updS st t m x y k = some r) (hm : den σ m = some mv) (hx : den σ x = some xv) (hy : den σ y = some yv) :
    RunsU C.P (Instr.mapUpdate t mv xv yv) h (fun h' => Out ng st σ h k r undef h') := by
  unfold Cx.updS at e
  rw [hC.und] at e
  split at e
  · rename_i kt et ht
    split at e
    · rename_i hkb
      obtain ⟨d, hd, hkk⟩ := keyB_ok hC hkb
      have hkey := keyK_is hkk hx
      split at e
      · rename_i id
        simp only [Option.bind_eq_some_iff] at e
        obtain ⟨es, he, es', hu, e⟩ := e
        obtain ⟨q, mes, c, hq, hb, hM, hget, hSt⟩ := map_obs (H.obs (Pre.refl _)) he
        obtain ⟨q', hq', rfl⟩ := den_m hm
        rw [hq] at hq'; cases hq'
        intro w hw
        subst hw
        have fin : ∀ (mes' : Array MapEntry) (c' : Nat), denM σ es' mes'.toList → MapKept.Stamped mes' c' → (Instr.mapUpdate t (.map (some q.1)) xv yv).run C.P w = .ok () { w with heap := w.heap.setIfInBounds q.1 (.map mes' c') } →
            ∃ w', (Instr.mapUpdate t (.map (some q.1)) xv yv).run C.P w = .ok () w' ∧ SameEnv w w' ∧ Out ng st σ w.heap k r undef w'.heap := by
          intro mes' c' hM' hSt' hrun
          have hT : Turns w.heap (w.heap.setIfInBounds q.1 (.map mes' c')) q.1 (.map mes' c') := ⟨by simp, (MapKept.heap_set hb).1, fun b hb' => (MapKept.heap_set hb).2 b hb'⟩
          obtain ⟨st', e', hG, _⟩ := writeS_ok H hget rfl hq hT (o := .map es') ⟨mes', c', rfl, hM'.1, hM'.2, hSt'⟩ e
          exact ⟨_, hrun, ⟨rfl, rfl, rfl⟩, undefS, st', σ, e', rfl, hG⟩
        rcases upS_ok hkk hx hy es es' mes.toList 0 hM hu with ⟨g1, g0, g2⟩ | ⟨j, u, g1, g2, g3⟩
        · exact fin _ _ (by simpa using g2 { key := xv, val := yv, born := c } rfl rfl) (MapKept.stamped_push hSt g0) (update_none ht hd hkey hb g1)
        · rw [Nat.zero_add] at g1
          exact fin _ _ (by rw [Array.toList_modify]; exact g3) (MapKept.stamped_modify hSt j (fun e => { e with key := xv, val := yv }) (fun _ _ => rfl) (fun e _ he => by rw [← Array.getElem?_toList] at he; rw [he] at g2; simpa using g2.symm)) (update_some ht hd hkey hb g1 g2)
      · cases e
    · cases e
  · cases e
theorem arr2 {α : Type} {a : Array α} {x y : α} (h : a.toList = [x, y]) : a = #[x, y] := by apply Array.ext'; exact h
/-- what is asked of the evaluator of calls -/
def CallOk (C : Cx) (call : Nat → List SV → St → Option (SV × St)) : Prop := ∀ (g : Nat) (args : List SV) (st : St) (s : SV) (st' : St), call g args st = some (s, st') → ∀ (σ : Env) (h : Heap) (vs : List Value), Rep C.ng st σ h → denL σ args = some vs →
  Fx C.P g vs.toArray h fun v h' => ∃ σ', den σ' s = some v ∧ Goes C.ng st σ h st' σ' h'
include hC in
theorem opi_ok {call : Nat → List SV → St → Option (SV × St)} (hcall : CallOk C call) (hF : Frm σ sf fr) (H : Rep C.ng st σ h) {o : Oper} (e : C.opi call o sf st k = some r) : Vm.opi C.P o fr h (Out C.ng st σ h k r) := by
  have e0 := e
  unfold Cx.opi at e
  split at e
  · rename_i T ho; exact alloc_ok hC H ho e0
  · rename_i T x ho; exact box_ok hF H ho e0
  · rename_i t len parts ho; exact buildSlice_ok hC hF H ho e0
  · rename_i t x y ho; exact makeSlice_ok hC hF H ho e0
  · rename_i T x y ho; exact store_ok hC hF H ho e0
  · rename_i s t x ho
    simp only [Option.bind_eq_some_iff] at e
    obtain ⟨v, hv, e⟩ := e
    obtain ⟨u, u1, u2⟩ := evO_ok hF hv
    unfold Vm.opi
    simp only [ho, evk_of u1]
    exact ⟨_, conv_ok hC H e u2, fun _ _ h => h⟩
  · rename_i c ho
    split at e
    · rename_i f hc
      simp only [Option.bind_eq_some_iff] at e
      obtain ⟨fv, hf, e⟩ := e
      obtain ⟨u, u1, u2⟩ := evO_ok hF hf
      split at e
      · rename_i g first cap
        simp only [Option.bind_eq_some_iff] at e
        obtain ⟨vs, hvs, ⟨s, st'⟩, hcl, e⟩ := e
        obtain ⟨us, v1, v2⟩ := evOs_ok hF _ _ hvs
        obtain ⟨x, y, h1, h2, rfl⟩ := den_f u2
        unfold Vm.opi
        simp only [ho, hc, evk_of u1]
        have hall := denL_append _ _ _ _ (denL_append _ _ _ _ h1 v2) h2
        have hfx := hcall _ _ _ _ _ hcl σ h _ H hall
        refine ⟨us, v1, _, (by simpa using hfx), ?_⟩
        rintro v h' ⟨σ', hd, hG⟩
        exact ⟨s, st', σ', e, hd, hG⟩
      · cases e
    · rename_i hc
      simp only [Option.bind_eq_some_iff] at e
      obtain ⟨vs, hvs, e⟩ := e
      obtain ⟨us, v1, v2⟩ := evOs_ok hF _ _ hvs
      split at e
      · rename_i hT
        have hT' := arr2 hT
        simp only [denL, Option.bind_eq_some_iff, Option.map_eq_some_iff] at v2
        obtain ⟨a, ha, _, ⟨b, hb, _, hnil, rfl⟩, rfl⟩ := v2
        simp only [Option.some.injEq] at hnil
        subst hnil
        unfold Vm.opi
        simp only [ho, hc]
        refine ⟨_, v1, _, ?_, fun _ _ h => h⟩
        simp only [builtinV]
        rw [hT']
        exact append_ok hC H e ha hb
      · cases e
    · rename_i hc
      simp only [Option.bind_eq_some_iff] at e
      obtain ⟨vs, hvs, e⟩ := e
      obtain ⟨us, v1, v2⟩ := evOs_ok hF _ _ hvs
      split at e
      · rename_i hT
        have hT' := arr2 hT
        simp only [denL, Option.bind_eq_some_iff, Option.map_eq_some_iff] at v2
        obtain ⟨a, ha, _, ⟨b, hb, _, hnil, rfl⟩, rfl⟩ := v2
        simp only [Option.some.injEq] at hnil
        subst hnil
        unfold Vm.opi
        simp only [ho, hc]
        refine ⟨_, v1, _, ?_, fun _ _ h => h⟩
        simp only [builtinV]
        rw [hT']
        exact copy_ok hC H e ha hb
      · cases e
    · rename_i hc
      simp only [Option.bind_eq_some_iff] at e
      obtain ⟨vs, hvs, e⟩ := e
      obtain ⟨us, v1, v2⟩ := evOs_ok hF _ _ hvs
      split at e
      · split at e
        · rename_i hab
          subst hab
          simp only [denL, den, Option.bind_some, Option.map_some, Option.some.injEq] at v2
          subst v2
          unfold Vm.opi
          simp only [ho, hc]
          refine ⟨_, v1, _, ?_, fun _ _ h => h⟩
          intro w hw
          subst hw
          exact ⟨_, w, by simp only [builtinV]; exact run_min_int2 .., SameEnv.refl w, _, st, σ, e, rfl, Goes.refl H⟩
        · cases e
      · cases e
    · rename_i hc
      simp only [Option.bind_eq_some_iff] at e
      obtain ⟨vs, hvs, e⟩ := e
      obtain ⟨us, v1, v2⟩ := evOs_ok hF _ _ hvs
      split at e
      · split at e
        · rename_i hab
          subst hab
          simp only [denL, den, Option.bind_some, Option.map_some, Option.some.injEq] at v2
          subst v2
          unfold Vm.opi
          simp only [ho, hc]
          refine ⟨_, v1, _, ?_, fun _ _ h => h⟩
          intro w hw
          subst hw
          exact ⟨_, w, by simp only [builtinV]; exact run_max_int2 .., SameEnv.refl w, _, st, σ, e, rfl, Goes.refl H⟩
        · cases e
      · cases e
    · cases e
  · rename_i t ho
    unfold Vm.opi
    simp only [ho]
    intro h' hN
    obtain ⟨st', e', hG⟩ := newS_ok H (cap := 0) (o := .map []) hN (fun σ' _ => ⟨#[], 0, rfl, rfl, rfl, MapKept.stamped_empty 0⟩) e
    exact ⟨_, st', _, e', by simp only [den, upd_same, Option.map_some], hG⟩
  · rename_i t m x y ho
    simp only [Option.bind_eq_some_iff] at e
    obtain ⟨ms, hm, xs, hx, ys, hy, e⟩ := e
    obtain ⟨mv, m1, m2⟩ := evO_ok hF hm
    obtain ⟨xv, x1, x2⟩ := evO_ok hF hx
    obtain ⟨yv, y1, y2⟩ := evO_ok hF hy
    unfold Vm.opi
    simp only [ho, evk_of m1, evk_of x1, evk_of y1]
    exact ⟨_, updS_ok hC H e m2 x2 y2, fun _ h => h⟩
  · rename_i t m x y ho
    simp only [Option.bind_eq_some_iff] at e
    obtain ⟨ms, hm, xs, hx, ys, hy, e⟩ := e
    obtain ⟨mv, m1, m2⟩ := evO_ok hF hm
    obtain ⟨xv, x1, x2⟩ := evO_ok hF hx
    obtain ⟨yv, y1, y2⟩ := evO_ok hF hy
    unfold Vm.opi
    simp only [ho, evk_of m1, evk_of x1, evk_of y1]
    exact ⟨_, updS_ok hC H e m2 x2 y2, fun _ h => h⟩
  · cases e
end
end Go.Proofs.YtkdmpdbbcgdfkaaGreatDoor.Sx
