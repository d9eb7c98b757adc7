/-
  An operation of the evaluator that only reads is the model's.
  An operation of the evaluator that only reads is the model's: all of them.
  An operation of the evaluator that only reads is the model's: the whole.
-/
import Derived.Test.YtkdmpdbbcgdfkaaGreatDoorJ16
import Derived.MapKept
namespace Go.Proofs.YtkdmpdbbcgdfkaaGreatDoor.Sx
open Go Vm
set_option linter.unusedSimpArgs false
set_option linter.unusedVariables false
section
variable {C : Cx} (hC : CxOk C) {st : St} {σ : Env} {h : Heap} {sf : SF} {fr : Fr}
theorem evk_ok {x : Operand} {v : Value} {k : Value → Prop} (e : ev fr x = some v) (hk : k v) : evk fr x k := by simp only [evk, e]; exact hk
theorem den_noagg {s : SV} {v : Value} (e : den σ s = some v) (hs : ∀ l, s ≠ .agg l) (a : Array Value) : v ≠ .agg a := by
  rintro rfl
  cases s <;> simp [den, Option.bind_eq_some_iff] at e
  exact hs _ rfl
theorem den_cells {s : SV} {v : Value} (e : den σ s = some v) : ∃ us, denL σ (cellsS s) = some us ∧ v.cells = us.toArray := by
  by_cases hs : ∃ l, s = .agg l
  · obtain ⟨l, rfl⟩ := hs
    simp only [den, Option.map_eq_some_iff] at e
    obtain ⟨us, h1, rfl⟩ := e
    exact ⟨us, h1, rfl⟩
  · have hs' : ∀ l, s ≠ .agg l := fun l e => hs ⟨l, e⟩
    have hv := den_noagg e hs'
    refine ⟨[v], ?_, ?_⟩
    · have : cellsS s = [s] := by cases s <;> first | rfl | exact absurd rfl (hs' _)
      rw [this]
      simp only [denL, e, Option.bind_some, Option.map_some]
    · cases v <;> first | rfl | exact absurd rfl (hv _)
theorem set_run : ∀ (us : List Value) (k off : Nat) (cs : List Value), off + k + us.length ≤ cs.length →
    (us.zipIdx k).foldl (fun (cs : Array Value) x => cs.setIfInBounds (off + x.2) x.1) cs.toArray = (cs.take (off + k) ++ us ++ cs.drop (off + k + us.length)).toArray
  | [], k, off, cs, _ => by simp
  | u :: us, k, off, cs, h => by
    simp only [List.length_cons] at h
    simp only [List.zipIdx_cons, List.foldl_cons, List.setIfInBounds_toArray]
    rw [set_run us (k + 1) off (cs.set (off + k) u) (by simp only [List.length_set]; omega)]
    congr 1
    have e1 : (cs.set (off + k) u).take (off + (k + 1)) = cs.take (off + k) ++ [u] := by
      rw [List.set_eq_take_append_cons_drop, if_pos (by omega), show off + (k + 1) = (cs.take (off + k)).length + 1 by simp only [List.length_take]; omega]
      rw [List.take_length_add_append]
      simp
    have e2 : (cs.set (off + k) u).drop (off + (k + 1) + us.length) = cs.drop (off + k + (us.length + 1)) := by
      rw [List.drop_set_of_lt (by omega)]
      congr 1; omega
    rw [e1, e2]
    simp
theorem fillS_ok {place : Nat → Option (Nat × Nat)} : ∀ (ps : List (Nat × SV)) (vs : List (Nat × Value)) (cells out : List SV) (cv : List Value), denP σ ps = some vs → denL σ cells = some cv →
    fillS place cells ps = some out → ∃ ov, denL σ out = some ov ∧ Instr.fill place cv.toArray vs = some ov.toArray ∧ ov.length = cv.length
  | [], vs, cells, out, cv, e1, e2, e3 => by
    simp only [denP, Option.some.injEq] at e1; subst e1
    simp only [fillS, Option.some.injEq] at e3; subst e3
    exact ⟨cv, e2, rfl, rfl⟩
  | (i, s) :: r, vs, cells, out, cv, e1, e2, e3 => by
    simp only [denP, Option.bind_eq_some_iff, Option.map_eq_some_iff] at e1
    obtain ⟨v, hv, vr, hr, rfl⟩ := e1
    simp only [fillS, Option.bind_eq_some_iff] at e3
    obtain ⟨⟨off, size⟩, hp, e3⟩ := e3
    split at e3
    · rename_i hc
      obtain ⟨hc1, hc2⟩ := hc
      obtain ⟨us, hus, hcv⟩ := den_cells hv
      have hl := denL_length _ _ hus
      have hlc := denL_length _ _ e2
      have hus' : us.length = size := by rw [hl]; exact hc1
      subst hus'
      have hden : denL σ (cells.take off ++ cellsS s ++ cells.drop (off + us.length)) = some (cv.take off ++ us ++ cv.drop (off + us.length)) :=
        denL_append _ _ _ _ (denL_append _ _ _ _ (denL_take _ _ _ e2) hus) (denL_drop _ _ _ e2)
      obtain ⟨ov, h1, h2, h3⟩ := fillS_ok r vr _ out _ hr hden e3
      refine ⟨ov, h1, ?_, ?_⟩
      · unfold Instr.fill
        simp only [hp, hcv, List.size_toArray]
        have hno : (decide (us.length ≠ us.length) || decide (off + us.length > cv.length)) = false := by simp; omega
        simp only [hno]
        have := set_run us 0 off cv (by simp only at hc2; omega)
        simp only [Nat.add_zero] at this
        have e9 : us.toArray.zipIdx = us.zipIdx.toArray := by
          apply Array.ext'
          simp [Array.toList_zipIdx]
        rw [e9]
        simp only [List.foldl_toArray, Bool.false_eq_true, if_false]
        rw [this]
        exact h2
      · rw [h3]; simp only [List.length_append, List.length_take, List.length_drop]; omega
    · cases e3
end
end Go.Proofs.YtkdmpdbbcgdfkaaGreatDoor.Sx
namespace Go.Proofs.YtkdmpdbbcgdfkaaGreatDoor.Sx
open Go Vm
set_option linter.unusedSimpArgs false
set_option linter.unusedVariables false
section
variable {C : Cx} (hC : CxOk C) {st : St} {σ : Env} {h : Heap} {sf : SF} {fr : Fr}
/-! ### building -/
theorem mapM_sizes (P : Program) (w : World) : ∀ (fs : List Field) , (∀ f ∈ fs, ∃ i, P.info? f.type = some i) → ∃ ps : List (Nat × Nat), (fs.mapM (fun f => (do pure (f.offset, ← sizeOf f.type) : Sem (Nat × Nat)))).run P w = .ok ps w ∧
    ∀ i : Nat, ps[i]? = (fs[i]?).bind fun f => (P.info? f.type).map fun x => (f.offset, x.size)
  | [], _ => ⟨[], by simp, fun i => by simp⟩
  | f :: fs, hf => by
    obtain ⟨x, hx⟩ := hf f (by simp)
    obtain ⟨ps, h1, h2⟩ := mapM_sizes P w fs (fun g hg => hf g (by simp [hg]))
    refine ⟨(f.offset, x.size) :: ps, ?_, fun i => ?_⟩
    · simp only [List.mapM_cons, Sem.run_bind, Sem.run_pure, Result.andThen_ok, Vm.run_sizeOf hx, h1]
    · cases i with
      | zero => simp [hx]
      | succ i => simpa using h2 i
theorem zero_ok (hC : CxOk C) {t : Nat} {s : SV} (e : C.zero t = some s) : ∃ i z, C.P.info? t = some i ∧ i.zero = some z ∧ den σ s = some z := by
  unfold Cx.zero at e
  simp only [Option.bind_eq_some_iff, hC.info] at e
  obtain ⟨i, hi, z, hz, e⟩ := e
  exact ⟨i, z, hi, hz, ofV_den σ z s e⟩
theorem fill_place {p q : Nat → Option (Nat × Nat)} : ∀ (ps : List (Nat × Value)) (cs : Array Value), (∀ x ∈ ps, p x.1 = q x.1) → Instr.fill p cs ps = Instr.fill q cs ps
  | [], _, _ => rfl
  | (i, v) :: r, cs, h => by
    unfold Instr.fill
    have h0 := h (i, v) (by simp)
    simp only at h0
    rw [h0]
    cases q i with
    | none => rfl
    | some x =>
      obtain ⟨off, size⟩ := x
      simp only
      split
      · rfl
      · exact fill_place r _ (fun y hy => h y (by simp [hy]))
theorem size_map (hC : CxOk C) (t : Nat) : C.size t = (C.P.info? t).map (·.size) := by unfold Cx.size; rw [hC.info]
theorem run_zero {P : Program} {t : TypeId} {i : TypeInfo} {z : Value} (hi : P.info? t = some i) (hz : i.zero = some z) (w : World) : (zeroValue t).run P w = .ok z w := by simp [zeroValue, typeInfo, hi, hz]
theorem buildS_ok (hC : CxOk C) {t : Nat} {ps : List (Nat × SV)} {s : SV} {vs : List (Nat × Value)} (e : C.buildS t ps = some s) (hp : denP σ ps = some vs) :
    ∃ c, den σ s = some (.agg c) ∧ ∀ w, (Instr.build t vs.toArray).run C.P w = .ok (.agg c) w := by
  unfold Cx.buildS at e
  simp only [Option.bind_eq_some_iff] at e
  obtain ⟨ti, hti, z, hz, e⟩ := e
  obtain ⟨i, zv, hi, hzv, hden⟩ := zero_ok hC hz
  obtain ⟨us, hus, hcv⟩ := den_cells hden
  rw [hC.und] at e
  split at e
  · rename_i fs ht
    simp only [Option.map_eq_some_iff] at e
    obtain ⟨l, e2, rfl⟩ := e
    obtain ⟨ov, h1, h2, _⟩ := fillS_ok ps vs _ l us hp hus e2
    refine ⟨ov.toArray, by simp only [den, h1, Option.map_some], fun w => ?_⟩
    obtain ⟨pl, g1, g2⟩ := mapM_sizes C.P w fs.toList (hC.flds t ti hti fs ht)
    have hm : (fs.mapM (fun f => (do pure (f.offset, ← sizeOf f.type) : Sem (Nat × Nat)))).run C.P w = .ok pl.toArray w := by
      rw [Array.mapM_eq_mapM_toList, map_eq_pure_bind, Sem.run_bind, g1]
      rfl
    have hf : Instr.fill (pl.toArray[·]?) us.toArray vs = some ov.toArray := by
      rw [← h2]
      refine fill_place _ _ fun x _ => ?_
      simp only [List.getElem?_toArray, g2, size_map hC, Option.map_map]
      rfl
    unfold Instr.build
    simp only [Sem.run_bind, run_zero hi hzv, Result.andThen_ok, run_underlying ht, hm, hcv, List.toList_toArray, hf, Sem.run_pure]
  · rename_i n el ht
    simp only [Option.bind_eq_some_iff, Option.map_eq_some_iff] at e
    obtain ⟨sz, hs, l, e2, rfl⟩ := e
    obtain ⟨j, hj, rfl⟩ := hC.size hs
    obtain ⟨ov, h1, h2, _⟩ := fillS_ok ps vs _ l us hp hus e2
    refine ⟨ov.toArray, by simp only [den, h1, Option.map_some], fun w => ?_⟩
    unfold Instr.build
    simp only [Sem.run_bind, run_zero hi hzv, Result.andThen_ok, run_underlying ht, Vm.run_sizeOf hj, hcv, List.toList_toArray, h2, Sem.run_pure]
  · cases e
/-! ### maps -/
def mkv (e : MapEntry) : Value × Value := (e.key, e.val)
def denM (σ : Env) (es : List (SV × SV)) (mes : List MapEntry) : Prop := denL σ (es.map (·.1)) = some (mes.map (·.key)) ∧ denL σ (es.map (·.2)) = some (mes.map (·.val))
theorem bytes_beq {a b : List Nat} (ha : a.all (Nat.blt · 256) = true) (hb : b.all (Nat.blt · 256) = true) : (bytesOf a == bytesOf b) = eqNs a b := by
  rw [eqNs_ok a b ha hb]
  by_cases h : a.map UInt8.ofNat = b.map UInt8.ofNat
  · rw [decide_eq_true h]
    have : bytesOf a = bytesOf b := by unfold bytesOf; rw [h]
    rw [this]
    exact (MapKept.bytes_beq _ _).2 rfl
  · rw [decide_eq_false h, Bool.eq_false_iff]
    intro e
    have := (MapKept.bytes_beq _ _).1 e
    apply h
    have := congrArg ByteArray.toList this
    rwa [bytesOf_list, bytesOf_list] at this
/-- the key of a map: a text, or a number -/
def keyK (d : TypeDesc) (k : SV) : Prop := (d = .string ∧ ∃ l, k = .s l) ∨ ∃ b n, d = .int b ∧ k = .i b n
def FindR (σ : Env) (d : TypeDesc) (kv : Value) (mes : List MapEntry) (i : Nat) : Option SV → Prop
  | none => Instr.findNow d kv mes i = some none
  | some u => ∃ j v, Instr.findNow d kv mes i = some (some (i + j, v)) ∧ den σ u = some v ∧ j < mes.length ∧ (mes[j]?).map (·.key) = some kv
theorem findS_ok {d : TypeDesc} {k : SV} {kv : Value} (hk : keyK d k) (hd : den σ k = some kv) : ∀ (es : List (SV × SV)) (mes : List MapEntry) (i : Nat) (r : Option SV), denM σ es mes → findS k es = some r → FindR σ d kv mes i r
  | [], mes, i, r, hm, e => by
    obtain ⟨h1, h2⟩ := hm
    simp only [findS, Option.some.injEq] at e
    subst e
    simp only [List.map_nil, denL, Option.some.injEq] at h1
    have : mes = [] := by simpa using h1.symm
    subst this
    rfl
  | (k', u) :: es, mes, i, r, hm, e => by
    obtain ⟨h1, h2⟩ := hm
    simp only [List.map_cons, denL, Option.bind_eq_some_iff, Option.map_eq_some_iff] at h1 h2
    obtain ⟨kv', hk', ks, hks, h1⟩ := h1
    obtain ⟨uv, hu, us, hus, h2⟩ := h2
    cases mes with
    | nil => simp at h1
    | cons m mes =>
      simp only [List.map_cons, List.cons.injEq] at h1 h2
      obtain ⟨rfl, rfl⟩ := h1
      obtain ⟨rfl, rfl⟩ := h2
      have rest : findS k es = some r → Instr.sameNow d kv m.key = some false → FindR σ d kv (m :: mes) i r := by
        intro e hs
        have ih := findS_ok hk hd es mes (i + 1) r ⟨hks, hus⟩ e
        cases r with
        | none => simp only [FindR] at ih ⊢; simp only [Instr.findNow, hs]; exact ih
        | some u =>
          simp only [FindR] at ih ⊢
          obtain ⟨j, v, g1, g2, g3, g4⟩ := ih
          refine ⟨j + 1, v, ?_, g2, by simp; omega, by simpa using g4⟩
          simp only [Instr.findNow, hs, g1]
          congr 3; omega
      have here : Instr.sameNow d kv m.key = some true → some u = r → FindR σ d kv (m :: mes) i r := by
        intro hs e
        subst e
        have hkey : m.key = kv := by
          rcases hk with ⟨rfl, l, rfl⟩ | ⟨b, n, rfl, rfl⟩
          · obtain ⟨_, rfl⟩ := den_s hd
            cases hmk : m.key <;> simp [hmk, Instr.sameNow] at hs
            exact congrArg _ ((MapKept.bytes_beq _ _).1 (by simpa using hs)).symm
          · have := den_i hd; subst this
            cases hmk : m.key <;> simp [hmk, Instr.sameNow] at hs
            obtain ⟨rfl, rfl⟩ := hs; rfl
        exact ⟨0, m.val, by simp only [Instr.findNow, hs]; rfl, hu, by simp, by simp [hkey]⟩
      rcases hk with ⟨rfl, l, rfl⟩ | ⟨b, n, rfl, rfl⟩
      · obtain ⟨al, rfl⟩ := den_s hd
        cases k' <;> simp only [findS] at e <;> first
          | (cases e; done)
          | skip
        rename_i l'
        obtain ⟨al', hk''⟩ := den_s hk'
        rw [hk''] at rest here
        simp only [Instr.sameNow, bytes_beq al al'] at rest here
        split at e
        · rename_i hq
          exact here (by rw [hq]) (by simpa using e)
        · rename_i hq
          exact rest e (by simpa using hq)
      · have := den_i hd; subst this
        cases k' <;> simp only [findS] at e <;> first
          | (cases e; done)
          | skip
        rename_i b' n'
        have hk'' := den_i hk'
        rw [hk''] at rest here
        split at e
        · rename_i hb
          subst hb
          simp only [Instr.sameNow, if_true] at rest here
          split at e
          · rename_i hq; subst hq; exact here (by simp) (by simpa using e)
          · rename_i hq; exact rest e (by simp [hq])
        · cases e
theorem keyB_ok (hC : CxOk C) {kt : Nat} {k : SV} (e : C.keyB kt k = true) : ∃ d, C.P.underlying kt = some d ∧ keyK d k := by
  unfold Cx.keyB at e
  rw [hC.und] at e
  split at e
  · rename_i ht
    split at e
    · exact ⟨_, ht, .inl ⟨rfl, _, rfl⟩⟩
    · cases e
  · rename_i a ht
    split at e
    · exact ⟨_, ht, .inr ⟨_, _, by rw [of_decide_eq_true e], rfl⟩⟩
    · cases e
  · cases e
theorem keyK_is {d : TypeDesc} {k : SV} {kv : Value} (hk : keyK d k) (hd : den σ k = some kv) : MapKept.IsKey d kv := by
  rcases hk with ⟨rfl, l, rfl⟩ | ⟨b, n, rfl, rfl⟩
  · obtain ⟨_, rfl⟩ := den_s hd; trivial
  · rw [den_i hd]; rfl
theorem lookup_nil {P : Program} {t kt et : TypeId} {d : TypeDesc} (ht : P.underlying t = some (.map kt et)) (hk : P.underlying kt = some d) {kv : Value} (hkey : MapKept.IsKey d kv) {inf : TypeInfo} {z : Value} (hi : P.info? et = some inf) (hz : inf.zero = some z) (ok : Bool) (w : World) :
    (Instr.lookup t (.map none) kv ok).run P w = .ok (if ok then .tuple #[z, .bool false] else z) w := by
  have hc := MapKept.run_checkKey (P := P) (w := w) hk hkey true 9999
  have hf : (Instr.findKey kt kv []).run P w = .ok none w := MapKept.run_findKey hk rfl
  simp [Instr.lookup, run_underlying ht, hc, hf, run_zero hi hz]
theorem lookup_none {P : Program} {t kt et : TypeId} {d : TypeDesc} (ht : P.underlying t = some (.map kt et)) (hk : P.underlying kt = some d) {kv : Value} (hkey : MapKept.IsKey d kv) {inf : TypeInfo} {z : Value} (hi : P.info? et = some inf) (hz : inf.zero = some z) (ok : Bool) {w : World}
    {r c : Nat} {es : Array MapEntry} (hb : w.heap[r]? = some (.map es c)) (hf : Instr.findNow d kv es.toList 0 = some none) :
    (Instr.lookup t (.map (some r)) kv ok).run P w = .ok (if ok then .tuple #[z, .bool false] else z) w := by
  have hc := MapKept.run_checkKey (P := P) (w := w) hk hkey es.isEmpty 9999
  have hf := MapKept.run_findKey (P := P) (w := w) hk hf
  simp [Instr.lookup, run_underlying ht, MapKept.run_getObj_map hb, hc, hf, run_zero hi hz]
theorem lookup_some {P : Program} {t kt et : TypeId} {d : TypeDesc} (ht : P.underlying t = some (.map kt et)) (hk : P.underlying kt = some d) {kv : Value} (hkey : MapKept.IsKey d kv) (ok : Bool) {w : World}
    {r c j : Nat} {v : Value} {es : Array MapEntry} (hb : w.heap[r]? = some (.map es c)) (hf : Instr.findNow d kv es.toList 0 = some (some (j, v))) :
    (Instr.lookup t (.map (some r)) kv ok).run P w = .ok (if ok then .tuple #[v, .bool true] else v) w := by
  have hc := MapKept.run_checkKey (P := P) (w := w) hk hkey es.isEmpty 9999
  have hf := MapKept.run_findKey (P := P) (w := w) hk hf
  simp [Instr.lookup, run_underlying ht, MapKept.run_getObj_map hb, hc, hf]
theorem map_obs (hO : Obs st σ h) {id : Nat} {es : List (SV × SV)} (e : mapOf st id = some es) :
    ∃ q mes c, σ id = some q ∧ h[q.1]? = some (.map mes c) ∧ denM σ es mes.toList ∧ st.hp.get id = some (.map es) ∧ MapKept.Stamped mes c := by
  unfold mapOf at e
  split at e
  · rename_i es' ho
    cases e
    obtain ⟨q, hq, mes, c, h1, h2, h3, h4⟩ := hO.obj _ _ ho
    exact ⟨q, mes, c, hq, h1, ⟨h2, h3⟩, ho, h4⟩
  · cases e
theorem lookup_ok (hC : CxOk C) (hO : Obs st σ h) {t kt et : Nat} {v k s : SV} {es : List (SV × SV)} {r : Option SV} {ok : Bool} {mv kv : Value} (ht : C.P.underlying t = some (.map kt et)) (hk : C.keyB kt k = true)
    (he : esOf st v = some es) (hf : findS k es = some r) (hs : C.found et ok r = some s) (hmv : den σ v = some mv) (hkv : den σ k = some kv) :
    ∃ u, den σ s = some u ∧ ∀ w, ExtH h w.heap → (Instr.lookup t mv kv ok).run C.P w = .ok u w := by
  obtain ⟨d, hd, hkk⟩ := keyB_ok hC hk
  have hkey := keyK_is hkk hkv
  have tupS : ∀ (u : SV) (x : Value) (b : Bool), den σ u = some x → den σ (if ok then .tup [u, .b b] else u) = some (if ok then .tuple #[x, .bool b] else x) := fun u x b hu => by
    cases ok with
    | true => simp [den, denL, hu]
    | false => simpa using hu
  unfold esOf at he
  split at he
  · cases he
    simp only [findS, Option.some.injEq] at hf
    subst hf
    simp only [Cx.found, Option.map_eq_some_iff] at hs
    obtain ⟨z, hz, rfl⟩ := hs
    obtain ⟨i, zv, hi, hzv, hden⟩ := zero_ok hC hz
    rw [den_mn hmv]
    exact ⟨_, tupS _ _ _ hden, fun w _ => lookup_nil ht hd hkey hi hzv ok w⟩
  · obtain ⟨q, mes, c, hq, hb, hm, _, _⟩ := map_obs hO he
    obtain ⟨q', hq', rfl⟩ := den_m hmv
    rw [hq] at hq'; cases hq'
    have hF := findS_ok hkk hkv es mes.toList 0 r hm hf
    have hbw : ∀ w : World, ExtH h w.heap → w.heap[q.1]? = some (.map mes c) := fun w hw => by rw [hw.block _ (Array.getElem?_eq_some_iff.1 hb).1]; exact hb
    cases r with
    | none =>
      simp only [Cx.found, Option.map_eq_some_iff] at hs
      obtain ⟨z, hz, rfl⟩ := hs
      obtain ⟨i, zv, hi, hzv, hden⟩ := zero_ok hC hz
      exact ⟨_, tupS _ _ _ hden, fun w hw => lookup_none ht hd hkey hi hzv ok (hbw w hw) hF⟩
    | some u =>
      simp only [Cx.found, Option.some.injEq] at hs
      subst hs
      obtain ⟨j, x, g1, g2, _, _⟩ := hF
      exact ⟨_, tupS _ _ _ g2, fun w hw => lookup_some ht hd hkey ok (hbw w hw) g1⟩
  · cases he
end
end Go.Proofs.YtkdmpdbbcgdfkaaGreatDoor.Sx
namespace Go.Proofs.YtkdmpdbbcgdfkaaGreatDoor.Sx
open Go Vm
set_option linter.unusedSimpArgs false
set_option linter.unusedVariables false
section
variable {C : Cx} (hC : CxOk C) {st : St} {σ : Env} {h : Heap} {sf : SF} {fr : Fr}
theorem evk_of {x : Operand} {v : Value} (e : ev fr x = some v) (k : Value → Prop) : evk fr x k = k v := by simp only [evk, e]
theorem assert_run {P : Program} {a t : TypeId} {d : TypeDesc} (hd : P.underlying a = some d) (hni : ∀ m, d ≠ .interface m) {v : Value} (w : World) :
    (∀ u, v = .iface a u → ∀ ok, (Instr.typeAssert v t a ok).run P w = .ok (if ok then .tuple #[u, .bool true] else u) w) ∧
    (∀ i z, P.info? a = some i → i.zero = some z → (v = .nilIface ∨ ∃ t' u, v = .iface t' u ∧ t' ≠ a) → (Instr.typeAssert v t a true).run P w = .ok (.tuple #[z, .bool false]) w) := by
  constructor
  · rintro u rfl ok
    cases d <;> first
      | exact absurd rfl (hni _)
      | simp [Instr.typeAssert, run_underlying hd]
  · rintro i z hi hz (rfl | ⟨t', u, rfl, hne⟩)
    · cases d <;> first
        | exact absurd rfl (hni _)
        | simp [Instr.typeAssert, run_underlying hd, run_zero hi hz]
    · cases d <;> first
        | exact absurd rfl (hni _)
        | simp [Instr.typeAssert, run_underlying hd, run_zero hi hz, hne]
theorem iface_run {P : Program} {t : TypeId} {d : TypeDesc} (hd : P.underlying t = some d) (hni : ∀ m, d ≠ .interface m) (v : Value) (w : World) : (Instr.makeInterface t v).run P w = .ok (.iface t v) w := by
  cases d <;> first
    | exact absurd rfl (hni _)
    | simp [Instr.makeInterface, run_underlying hd]
theorem addr_add0 (b o : Nat) : (⟨b, o, none⟩ : Addr).add 0 = ⟨b, o, none⟩ := by simp [Addr.add]
theorem addr_add (b o n : Nat) : (⟨b, o, none⟩ : Addr).add n = ⟨b, o + n, none⟩ := by
  unfold Addr.add
  split
  · rename_i e; subst e; rfl
  · rfl
theorem slice_gen (hF : Frm σ sf fr) {P : Program} {o : Oper} {t el : Nat} {x : Operand} {lo hi : Option Operand} (ho : o.op = .slice t x lo hi none) {i : TypeInfo} (ht : P.underlying t = some (.slice el)) (hi' : P.info? el = some i) {A : Option Addr} {len cap a b : Nat}
    (ev1 : ev fr x = some (.slice A len cap)) (ha : bndS sf lo 0 = some a) (hb : bndS sf hi len = some b) (h1 : a ≤ b) (h2 : b ≤ cap) {R : Value} (hR : .slice (if cap = a then A else A.map (·.add (a * i.size))) (b - a) (cap - a) = R) (k : Value → Prop) (hk : k R) : Vm.opq P o fr h k := by
  unfold Vm.opq
  simp only [ho, evk_of ev1, ht, hi']
  refine bndS_ok hF ha (bndS_ok hF hb ?_)
  refine ⟨⟨by omega, by omega, by omega⟩, _, rfl, ?_⟩
  simp only [Int.toNat_natCast]
  rw [hR]
  exact hk
theorem array_gen (hF : Frm σ sf fr) {P : Program} {o : Oper} {t el n : Nat} {x : Operand} {lo hi : Option Operand} (ho : o.op = .slice t x lo hi none) {i : TypeInfo} (ht : P.underlying t = some (.array n el)) (hi' : P.info? el = some i) {A : Addr} {a b : Nat}
    (ev1 : ev fr x = some (.pointer (some A))) (ha : bndS sf lo 0 = some a) (hb : bndS sf hi n = some b) (h1 : a ≤ b) (h2 : b ≤ n) {R : Value} (hR : .slice (some (if n = a then A else A.add (a * i.size))) (b - a) (n - a) = R) (k : Value → Prop) (hk : k R) : Vm.opq P o fr h k := by
  unfold Vm.opq
  simp only [ho, evk_of ev1, ht, hi']
  refine bndS_ok hF ha (bndS_ok hF hb ?_)
  refine ⟨⟨by omega, by omega, by omega⟩, _, rfl, ?_⟩
  simp only [Int.toNat_natCast]
  rw [hR]
  exact hk
include hC in
theorem slice_ok {o : Oper} {t : Nat} {x : Operand} {lo hi : Option Operand} (ho : o.op = .slice t x lo hi none) (hF : Frm σ sf fr) {s : SV} (e : C.opq o sf st = some s) :
    ∃ v, den σ s = some v ∧ ∀ k : Value → Prop, k v → Vm.opq C.P o fr h k := by
  unfold Cx.opq at e
  simp only [ho, Option.bind_eq_some_iff] at e
  obtain ⟨sv, hx, e⟩ := e
  obtain ⟨v, ev1, d1⟩ := evO_ok hF hx
  rw [hC.und] at e
  split at e
  · rename_i l ht
    simp only [Option.bind_eq_some_iff] at e
    obtain ⟨a, ha, b, hb, e⟩ := e
    split at e
    · rename_i hab
      cases e
      obtain ⟨al, rfl⟩ := den_s d1
      refine ⟨_, den_str (all_cut al a (b - a)), fun k hk => ?_⟩
      unfold Vm.opq
      simp only [ho, evk_of ev1, ht]
      refine bndS_ok hF ha (bndS_ok hF (d := l.length) hb ?_ |> fun H => by rw [bytesOf_size]; exact H)
      refine ⟨⟨by omega, by omega, by omega⟩, ?_⟩
      rw [Int.toNat_natCast, Int.toNat_natCast, bytesOf_cut]
      exact hk
    · cases e
  · rename_i el ht
    simp only [Option.bind_eq_some_iff] at e
    obtain ⟨n, hn, a, ha, b, hb, e⟩ := e
    obtain ⟨i, hi, rfl⟩ := hC.size hn
    split at e
    · rename_i hab
      obtain ⟨rfl, rfl⟩ := hab
      cases e
      rw [den_sn d1] at ev1
      exact ⟨.slice none 0 0, by simp only [den], slice_gen hF ho ht hi ev1 ha hb (Nat.le_refl _) (Nat.le_refl _) (by simp)⟩
    · cases e
  · rename_i el id off len cap ht
    simp only [Option.bind_eq_some_iff] at e
    obtain ⟨n, hn, a, ha, b, hb, e⟩ := e
    obtain ⟨i, hi, rfl⟩ := hC.size hn
    split at e
    · rename_i hab
      cases e
      obtain ⟨q, hq, hc, rfl⟩ := den_sl d1
      refine ⟨_, ?_, slice_gen hF ho ht hi ev1 ha hb hab.1 hab.2 rfl⟩
      simp only [den]
      rw [if_pos ⟨by omega, by omega⟩, hq]
      simp only [Option.map_some, addr_add]
      congr 2
      split <;> rfl
    · cases e
  · rename_i el id off eo len ht
    simp only [Option.bind_eq_some_iff] at e
    obtain ⟨n, hn, a, ha, b, hb, e⟩ := e
    obtain ⟨i, hi, rfl⟩ := hC.size hn
    obtain ⟨q, hq, hc, rfl⟩ := den_sg d1
    split at e
    · rename_i hab
      split at e
      · rename_i h0
        cases e
        refine ⟨_, ?_, slice_gen hF ho ht hi ev1 ha hb hab.1 (by omega) rfl⟩
        simp only [den, hq, Option.bind_some]
        rw [if_pos ⟨by omega, by omega⟩]
        simp only [Option.map_some, addr_add]
        congr 2
        · split
          · rename_i e0
            have : a = 0 := by omega
            subst this; simp
          · rfl
        · omega
      · rename_i h0
        cases e
        refine ⟨_, ?_, slice_gen hF ho ht hi ev1 ha hb hab.1 (by omega) rfl⟩
        simp only [den, hq, Option.bind_some]
        rw [if_pos ⟨by omega, by omega⟩]
        simp only [Option.map_some, addr_add]
        have : b - a = 0 := by omega
        rw [this]
        congr 2
        split <;> rfl
    · cases e
  · rename_i el id off d eo x' ht
    simp only [Option.bind_eq_some_iff] at e
    obtain ⟨n, hn, a, ha, b, hb, e⟩ := e
    obtain ⟨i, hi, rfl⟩ := hC.size hn
    obtain ⟨q, hq, hc, rfl⟩ := den_se d1
    split at e
    · rename_i hab
      obtain ⟨rfl, rfl⟩ := hab
      cases e
      exact ⟨_, d1, slice_gen hF ho ht hi ev1 ha hb (Nat.le_refl _) (Nat.zero_le _) (by simp [addr_add0])⟩
    · cases e
  · rename_i n' el id off ht
    simp only [Option.bind_eq_some_iff] at e
    obtain ⟨n, hn, a, ha, b, hb, e⟩ := e
    obtain ⟨i, hi, rfl⟩ := hC.size hn
    obtain ⟨q, hq, rfl⟩ := den_p d1
    split at e
    · rename_i hab
      split at e
      · rename_i hm
        cases e
        refine ⟨_, ?_, array_gen hF ho ht hi ev1 ha hb hab.1 hab.2 rfl⟩
        simp only [den]
        rw [if_pos ⟨by omega, by simp only [maxLen]; omega⟩, hq]
        simp only [Option.map_some, addr_add]
        congr 3
        split <;> rfl
      · cases e
    · cases e
  · cases e
theorem den_tup {l : List SV} {v : Value} (e : den σ (.tup l) = some v) : ∃ vs, denL σ l = some vs ∧ v = .tuple vs.toArray := by
  simp only [den, Option.map_eq_some_iff] at e
  obtain ⟨vs, h1, rfl⟩ := e
  exact ⟨vs, h1, rfl⟩
theorem den_agg {l : List SV} {v : Value} (e : den σ (.agg l) = some v) : ∃ vs, denL σ l = some vs ∧ v = .agg vs.toArray := by
  simp only [den, Option.map_eq_some_iff] at e
  obtain ⟨vs, h1, rfl⟩ := e
  exact ⟨vs, h1, rfl⟩
theorem den_p_of {a o : Nat} {q : Nat × Nat} (hq : σ a = some q) : den σ (.p a o) = some (.pointer (some ⟨q.1, o, none⟩)) := by simp only [den, hq, Option.map_some]
include hC in
theorem opq_ok (hF : Frm σ sf fr) (hO : Obs st σ h) {o : Oper} {s : SV} (e : C.opq o sf st = some s) : ∃ v, den σ s = some v ∧ ∀ k : Value → Prop, k v → Vm.opq C.P o fr h k := by
  have e0 := e
  unfold Cx.opq at e
  split at e
  · rename_i x ho
    obtain ⟨v, h1, h2⟩ := evO_ok hF e
    exact ⟨v, h2, fun k hk => by unfold Vm.opq; simp only [ho, evk_of h1]; exact hk⟩
  · rename_i x ho
    obtain ⟨v, h1, h2⟩ := evO_ok hF e
    exact ⟨v, h2, fun k hk => by unfold Vm.opq; simp only [ho, evk_of h1]; exact hk⟩
  · rename_i c a b ho
    simp only [Option.bind_eq_some_iff] at e
    obtain ⟨cs, hc, e⟩ := e
    obtain ⟨cv, c1, c2⟩ := evO_ok hF hc
    split at e
    · obtain ⟨v, h1, h2⟩ := evO_ok hF e
      rw [den_b c2] at c1
      exact ⟨v, h2, fun k hk => by unfold Vm.opq; simp only [ho, evk_of c1, evk_of h1]; exact hk⟩
    · obtain ⟨v, h1, h2⟩ := evO_ok hF e
      rw [den_b c2] at c1
      exact ⟨v, h2, fun k hk => by unfold Vm.opq; simp only [ho, evk_of c1, evk_of h1]; exact hk⟩
    · cases e
  · rename_i x ho
    simp only [Option.bind_eq_some_iff] at e
    obtain ⟨cs, hc, e⟩ := e
    obtain ⟨cv, c1, c2⟩ := evO_ok hF hc
    split at e
    · cases e
      obtain ⟨q, hq, rfl⟩ := den_p c2
      exact ⟨_, c2, fun k hk => by unfold Vm.opq; simp only [ho, evk_of c1]; exact hk⟩
    · cases e
      obtain ⟨x, y, h1, h2, rfl⟩ := den_f c2
      exact ⟨_, c2, fun k hk => by unfold Vm.opq; simp only [ho, evk_of c1]; exact hk⟩
    · cases e
  · rename_i op t x y yt ho
    simp only [Option.bind_eq_some_iff] at e
    obtain ⟨a, ha, b, hb, e⟩ := e
    obtain ⟨u, a1, a2⟩ := evO_ok hF ha
    obtain ⟨w, b1, b2⟩ := evO_ok hF hb
    obtain ⟨r, h1, h2⟩ := binS_ok hC e a2 b2
    exact ⟨r, h1, fun k hk => by unfold Vm.opq; simp only [ho, evk_of a1, evk_of b1]; exact h2 k hk⟩
  · rename_i op t x ho
    simp only [Option.bind_eq_some_iff] at e
    obtain ⟨a, ha, e⟩ := e
    obtain ⟨u, a1, a2⟩ := evO_ok hF ha
    split at e
    · cases e
      rw [den_i a2] at a1
      exact ⟨_, rfl, fun k hk => by unfold Vm.opq; simp only [ho, evk_of a1]; exact hk⟩
    · cases e
      rw [den_i a2] at a1
      exact ⟨_, rfl, fun k hk => by unfold Vm.opq; simp only [ho, evk_of a1]; exact hk⟩
    · cases e
      rw [den_b a2] at a1
      exact ⟨_, rfl, fun k hk => by unfold Vm.opq; simp only [ho, evk_of a1]; exact hk⟩
    · cases e
  · rename_i sT tT x ho
    simp only [Option.bind_eq_some_iff] at e
    obtain ⟨a, ha, e⟩ := e
    obtain ⟨u, a1, a2⟩ := evO_ok hF ha
    simp only [hC.und] at e
    split at e
    · rename_i hs ht
      cases e
      rw [den_i a2] at a1
      exact ⟨_, rfl, fun k hk => by unfold Vm.opq; simp only [ho, evk_of a1, hs, ht]; exact hk⟩
    · rename_i hs ht
      cases e
      obtain ⟨al, rfl⟩ := den_s a2
      exact ⟨_, a2, fun k hk => by unfold Vm.opq; simp only [ho, evk_of a1, hs, ht]; exact hk⟩
    · cases e
  · rename_i sT x i ho
    simp only [Option.bind_eq_some_iff] at e
    obtain ⟨a, ha, e⟩ := e
    obtain ⟨u, a1, a2⟩ := evO_ok hF ha
    split at e
    · simp only [Option.bind_eq_some_iff] at e
      obtain ⟨f, hf, n, hn, e⟩ := e
      obtain ⟨fs, hs, hfs⟩ := fieldOf_ok hC hf
      obtain ⟨inf, hi, rfl⟩ := hC.size hn
      split at e
      · cases e
      · rename_i h0
        cases e
        obtain ⟨q, hq, rfl⟩ := den_p a2
        exact ⟨_, den_p_of hq, fun k hk => by unfold Vm.opq; simp only [ho, evk_of a1, hs, hfs, hi, h0, if_false]; exact addk_ok hk⟩
    · cases e
  · rename_i t x i ho
    simp only [Option.bind_eq_some_iff] at e
    obtain ⟨a, ha, e⟩ := e
    obtain ⟨u, a1, a2⟩ := evO_ok hF ha
    split at e
    · simp only [Option.bind_eq_some_iff] at e
      obtain ⟨f, hf, e⟩ := e
      obtain ⟨fs, hs, hfs⟩ := fieldOf_ok hC hf
      obtain ⟨vs, hv, rfl⟩ := den_agg a2
      obtain ⟨r, h1, h2⟩ := partS_ok hC e hv
      exact ⟨r, h1, fun k hk => by unfold Vm.opq; simp only [ho, evk_of a1, hs, hfs]; exact h2 k hk⟩
    · cases e
  · rename_i t x i ho
    simp only [Option.bind_eq_some_iff] at e
    obtain ⟨a, ha, iv, hi, e⟩ := e
    obtain ⟨u, a1, a2⟩ := evO_ok hF ha
    obtain ⟨w, b1, b2⟩ := evO_ok hF hi
    split at e
    · rename_i kd n
      have := den_i b2; subst this
      rw [hC.und] at e
      split at e
      · rename_i ht
        simp only [Option.bind_eq_some_iff] at e
        obtain ⟨z, hz, e⟩ := e
        obtain ⟨inf, hin, rfl⟩ := hC.size hz
        split at e
        · rename_i hn
          cases e
          obtain ⟨q, hq, rfl⟩ := den_p a2
          exact ⟨_, den_p_of hq, fun k hk => by
            unfold Vm.opq; simp only [ho, evk_of a1, evk_of b1, ht, hin]
            exact ⟨⟨Int.natCast_nonneg _, by simpa using hn⟩, addi_ok hk⟩⟩
        · cases e
      · rename_i ht
        simp only [Option.bind_eq_some_iff] at e
        obtain ⟨z, hz, e⟩ := e
        obtain ⟨inf, hin, rfl⟩ := hC.size hz
        split at e
        · rename_i hn
          cases e
          obtain ⟨q, hq, hc, rfl⟩ := den_sl a2
          exact ⟨_, den_p_of hq, fun k hk => by
            unfold Vm.opq; simp only [ho, evk_of a1, evk_of b1, ht, hin]
            exact ⟨⟨Int.natCast_nonneg _, by simpa using hn⟩, addi_ok hk⟩⟩
        · cases e
      · rename_i ht
        simp only [Option.bind_eq_some_iff] at e
        obtain ⟨z, hz, e⟩ := e
        obtain ⟨inf, hin, rfl⟩ := hC.size hz
        split at e
        · rename_i hn
          cases e
          obtain ⟨q, hq, hc, rfl⟩ := den_sg a2
          exact ⟨_, den_p_of hq, fun k hk => by
            unfold Vm.opq; simp only [ho, evk_of a1, evk_of b1, ht, hin]
            exact ⟨⟨Int.natCast_nonneg _, by simpa using hn⟩, addi_ok hk⟩⟩
        · cases e
      · cases e
    · cases e
  · rename_i t x i ho
    simp only [Option.bind_eq_some_iff] at e
    obtain ⟨a, ha, iv, hi, e⟩ := e
    obtain ⟨u, a1, a2⟩ := evO_ok hF ha
    obtain ⟨w, b1, b2⟩ := evO_ok hF hi
    split at e
    · rename_i kd n
      have := den_i b2; subst this
      rw [hC.und] at e
      split at e
      · rename_i ht
        simp only [Option.bind_eq_some_iff] at e
        obtain ⟨z, hz, e⟩ := e
        obtain ⟨inf, hin, rfl⟩ := hC.size hz
        split at e
        · rename_i hn
          obtain ⟨vs, hv, rfl⟩ := den_agg a2
          obtain ⟨r, h1, h2⟩ := partS_ok hC e hv
          exact ⟨r, h1, fun k hk => by
            unfold Vm.opq; simp only [ho, evk_of a1, evk_of b1, ht, hin]
            exact ⟨⟨Int.natCast_nonneg _, by simpa using hn⟩, h2 k hk⟩⟩
        · cases e
      · rename_i l ht
        simp only [Option.map_eq_some_iff] at e
        obtain ⟨b, hb, rfl⟩ := e
        obtain ⟨al, rfl⟩ := den_s a2
        obtain ⟨g1, g2⟩ := bytesOf_get al hb
        exact ⟨.int .u8 (Int.ofNat b), rfl, fun k hk => by
            unfold Vm.opq; simp only [ho, evk_of a1, evk_of b1, ht]
            exact ⟨_, ⟨Int.natCast_nonneg _, g1⟩, by rw [g2]; exact hk⟩⟩
      · cases e
    · cases e
  · rename_i x i ho
    simp only [Option.bind_eq_some_iff] at e
    obtain ⟨a, ha, e⟩ := e
    obtain ⟨u, a1, a2⟩ := evO_ok hF ha
    split at e
    · obtain ⟨vs, hv, rfl⟩ := den_tup a2
      obtain ⟨r, h1, h2⟩ := denL_get _ _ _ _ hv e
      have h2' : vs.toArray[i]? = some r := by simpa using h2
      exact ⟨r, h1, fun k hk => by unfold Vm.opq; simp only [ho, evk_of a1, h2']; exact hk⟩
    · cases e
  · rename_i t x ho
    simp only [Option.bind_eq_some_iff] at e
    obtain ⟨a, ha, e⟩ := e
    obtain ⟨u, a1, a2⟩ := evO_ok hF ha
    split at e
    · obtain ⟨q, v, hq, hv, hk⟩ := loadS_ok hC hO e
      obtain ⟨q', hq', rfl⟩ := den_p a2
      rw [hq] at hq'; cases hq'
      exact ⟨v, hv, fun k h => by unfold Vm.opq; simp only [ho, evk_of a1]; exact hk k h⟩
    · cases e
  · rename_i t x lo hi ho
    exact slice_ok hC ho hF e0
  · rename_i T x ho
    simp only [Option.bind_eq_some_iff] at e
    obtain ⟨a, ha, e⟩ := e
    obtain ⟨u, a1, a2⟩ := evO_ok hF ha
    rw [hC.und] at e
    split at e
    · rename_i ht
      split at e
      · rename_i hn
        cases e
        obtain ⟨q, hq, hc, rfl⟩ := den_sl a2
        exact ⟨_, den_p_of hq, fun k hk => by unfold Vm.opq; simp only [ho, evk_of a1, ht]; exact ⟨hn, hk⟩⟩
      · cases e
    · rename_i ht
      split at e
      · rename_i hn
        cases e
        obtain ⟨q, hq, hc, rfl⟩ := den_sg a2
        exact ⟨_, den_p_of hq, fun k hk => by unfold Vm.opq; simp only [ho, evk_of a1, ht]; exact ⟨hn, hk⟩⟩
      · cases e
    · cases e
  · rename_i c ho
    split at e
    · rename_i hcb
      split at e
      · rename_i x T hx hT
        simp only [Option.bind_eq_some_iff] at e
        obtain ⟨a, ha, e⟩ := e
        obtain ⟨u, a1, a2⟩ := evO_ok hF ha
        have hx0 : c.args[0]? = some x := by rw [← Array.getElem?_toList, hx]; rfl
        have hT0 : c.argTypes[0]? = some T := by rw [← Array.getElem?_toList, hT]; rfl
        rw [hC.und] at e
        split at e
        · rename_i l ht
          cases e
          obtain ⟨al, rfl⟩ := den_s a2
          exact ⟨.int .i64 (Int.ofNat l.length), rfl, fun k hk => by
            unfold Vm.opq lenq; simp only [ho, hcb, hx0, hT0, evk_of a1, ht, bytesOf_size]; exact hk⟩
        · rename_i ht
          simp only [Option.map_eq_some_iff] at e
          obtain ⟨n, hn, rfl⟩ := e
          obtain ⟨A, cp, rfl, _⟩ := lenS_ok hn a2
          exact ⟨.int .i64 (Int.ofNat n), rfl, fun k hk => by
            unfold Vm.opq lenq; simp only [ho, hcb, hx0, hT0, evk_of a1, ht]; exact hk⟩
        · cases e
      · cases e
    · cases e
  · rename_i t parts ho
    simp only [Option.bind_eq_some_iff] at e
    obtain ⟨ps, hp, e⟩ := e
    obtain ⟨vs, p1, p2⟩ := evPs_ok hF _ _ hp
    obtain ⟨c, h1, h2⟩ := buildS_ok hC e p2
    exact ⟨_, h1, fun k hk => by unfold Vm.opq; simp only [ho]; exact ⟨vs, p1, c, h2, hk⟩⟩
  · rename_i t x ix ok ho
    simp only [Option.bind_eq_some_iff] at e
    obtain ⟨a, ha, iv, hi, e⟩ := e
    obtain ⟨u, a1, a2⟩ := evO_ok hF ha
    obtain ⟨w, b1, b2⟩ := evO_ok hF hi
    rw [hC.und] at e
    split at e
    · rename_i kt et ht
      split at e
      · rename_i hk
        simp only [Option.bind_eq_some_iff] at e
        obtain ⟨es, he, r, hr, e⟩ := e
        obtain ⟨v, h1, h2⟩ := lookup_ok hC hO ht hk he hr e a2 b2
        exact ⟨v, h1, fun k hk => by unfold Vm.opq; simp only [ho, evk_of a1, evk_of b1]; exact ⟨v, h2, hk⟩⟩
      · cases e
    · cases e
  · rename_i t x ho
    simp only [Option.bind_eq_some_iff] at e
    obtain ⟨a, ha, e⟩ := e
    obtain ⟨u, a1, a2⟩ := evO_ok hF ha
    rw [hC.und] at e
    split at e
    · cases e
    · rename_i d hni ht
      cases e
      exact ⟨.iface t u, by simp only [den, a2, Option.map_some], fun k hk => by
        unfold Vm.opq; simp only [ho, evk_of a1]; exact ⟨_, fun w => iface_run ht (fun m e => hni m e) u w, hk⟩⟩
    · cases e
  · rename_i x t as ok ho
    simp only [Option.bind_eq_some_iff] at e
    obtain ⟨a, ha, e⟩ := e
    obtain ⟨u, a1, a2⟩ := evO_ok hF ha
    rw [hC.und] at e
    split at e
    · cases e
    · rename_i d hni ht
      have hni' : ∀ m, d ≠ .interface m := fun m e => hni m e
      have tupz : ∀ z zv, den σ z = some zv → den σ (.tup [z, .b false]) = some (.tuple #[zv, .bool false]) := fun z zv hz => by simp [den, denL, hz]
      split at e
      · split at e
        · rename_i hok
          subst hok
          simp only [Option.map_eq_some_iff] at e
          obtain ⟨z, hz, rfl⟩ := e
          obtain ⟨i, zv, hi, hzv, hd⟩ := zero_ok hC hz
          rw [den_nifc a2] at a1
          exact ⟨_, tupz _ _ hd, fun k hk => by
            unfold Vm.opq; simp only [ho, evk_of a1]; exact ⟨_, fun w => (assert_run ht hni' w).2 i zv hi hzv (.inl rfl), hk⟩⟩
        · cases e
      · rename_i t' w'
        obtain ⟨uv, hu, rfl⟩ := den_ifc a2
        split at e
        · rename_i ht'
          subst ht'
          cases e
          refine ⟨if ok then .tuple #[uv, .bool true] else uv, ?_, fun k hk => by
            unfold Vm.opq; simp only [ho, evk_of a1]; exact ⟨_, fun w => (assert_run ht hni' w).1 uv rfl ok, hk⟩⟩
          cases ok with
          | true => simp [den, denL, hu]
          | false => simpa using hu
        · rename_i hne
          split at e
          · rename_i hok
            subst hok
            simp only [Option.map_eq_some_iff] at e
            obtain ⟨z, hz, rfl⟩ := e
            obtain ⟨i, zv, hi, hzv, hd⟩ := zero_ok hC hz
            exact ⟨_, tupz _ _ hd, fun k hk => by
              unfold Vm.opq; simp only [ho, evk_of a1]; exact ⟨_, fun w => (assert_run ht hni' w).2 i zv hi hzv (.inr ⟨t', uv, rfl, hne⟩), hk⟩⟩
          · cases e
      · cases e
    · cases e
  · rename_i g first cap ho
    simp only [Option.bind_eq_some_iff, Option.map_eq_some_iff] at e
    obtain ⟨a, ha, c, hc, rfl⟩ := e
    obtain ⟨vs, a1, a2⟩ := evOs_ok hF _ _ ha
    obtain ⟨us, b1, b2⟩ := evOs_ok hF _ _ hc
    exact ⟨.func (.func g) vs.toArray us.toArray, by simp only [den, a2, b2, Option.bind_some, Option.map_some], fun k hk => by
      unfold Vm.opq; simp only [ho]; exact ⟨vs, a1, us, b1, hk⟩⟩
  · cases e
end
end Go.Proofs.YtkdmpdbbcgdfkaaGreatDoor.Sx
