/-
  An operation of the evaluator that only reads is the model's.
  An operation of the evaluator that only reads is the model's.
  An operation of the evaluator that only reads is the model's: all of them.
-/
import Derived.Test.YtdielfpgekenkaaGreatDoorJ8
import Derived.MapKept
import Derived.ChangeKeysEq
import Derived.Test.YtdielfpgekenkaaGreatDoorJ5
namespace Go.Proofs.YtdielfpgekenkaaGreatDoor.Sx
open Go Vm
set_option linter.unusedSimpArgs false
set_option linter.unusedVariables false
section
variable {C : Cx} (hC : CxOk C) {st : St} {σ : Env} {h : Heap} {sf : SF} {fr : Fr}
include hC in
theorem binS_ok {op : BinOp} {t : Nat} {xo yo : Operand} {x y s : SV} {u v : Value} (e : C.binS op t xo yo x y = some s) (hx : den σ x = some u) (hy : den σ y = some v) :
    ∃ r, den σ s = some r ∧ ∀ k : Value → Prop, k r → binq C.P op t xo yo u v k := by
  have gen : ∀ (r : Value), (∀ w, (do eqGuard op t xo yo u v; binOp op t u v : Sem Value).run C.P w = .ok r w) → (∀ k n, u ≠ .int k n) → (∀ s, u ≠ .string s) → ∀ k : Value → Prop, k r → binq C.P op t xo yo u v k := by
    intro r hr h1 h2 k hk
    unfold binq
    split
    · exact absurd rfl (h1 _ _)
    · exact absurd rfl (h2 _)
    · exact ⟨r, hr, hk⟩
  unfold Cx.binS at e
  split at e
  · rename_i a x b y
    simp only [den, Option.some.injEq] at hx hy
    subst hx hy
    split at e
    · split at e
      · rename_i h0; cases e; exact ⟨_, rfl, fun k hk => ⟨h0, hk⟩⟩
      · cases e
    · split at e
      · rename_i h0; cases e; exact ⟨_, rfl, fun k hk => ⟨h0, hk⟩⟩
      · cases e
    · rename_i h1 h2
      split at e
      · rename_i hab
        subst hab
        obtain ⟨r, hr, hk⟩ := intS_ok e σ
        refine ⟨r, hr, fun k hr => ?_⟩
        have := hk k hr
        unfold binq
        cases op <;> first
          | exact absurd rfl h1
          | exact absurd rfl h2
          | (simp only [if_true]; exact this)
      · cases e
  · rename_i x y
    exact strS_ok hC (x := x) (y := y) (by unfold Cx.binS; exact e) hx hy
  · rename_i x y
    simp only [den, Option.map_eq_some_iff] at hx hy
    obtain ⟨xs, hxs, rfl⟩ := hx
    obtain ⟨ys, hys, rfl⟩ := hy
    simp only [Option.bind_eq_some_iff] at e
    obtain ⟨xs', e1, ys', e2, r, e3, e⟩ := e
    have := toVs_den x xs xs' e1 hxs
    subst this
    have := toVs_den y ys ys' e2 hys
    subst this
    split at e
    · simp only [b2, Option.some.injEq] at e
      subst e
      exact ⟨_, rfl, gen _ (fun w => pureRun_ok _ _ e3 w) (by simp) (by simp)⟩
    · cases e
  · rename_i h1 h2 h3
    split at e
    · simp only [Option.bind_eq_some_iff, b2, Option.some.injEq] at e
      obtain ⟨b, e, rfl⟩ := e
      obtain ⟨g1, g2, g3, g4, g7, g8⟩ := eqS_ok hC e hx hy
      refine ⟨_, rfl, gen _ (fun w => ?_) g3 g4⟩
      rw [Sem.run_bind, g1]
      simp only [Result.andThen_ok]
      cases u <;> first
        | exact absurd rfl (g3 _ _)
        | exact absurd rfl (g4 _)
        | exact absurd rfl (g7 _ _)
        | exact absurd rfl (g8 _ _ _)
        | simp [binOp, g2]
    · simp only [Option.bind_eq_some_iff, b2, Option.some.injEq] at e
      obtain ⟨b, e, rfl⟩ := e
      obtain ⟨g1, g2, g3, g4, g7, g8⟩ := eqS_ok hC e hx hy
      refine ⟨_, rfl, gen _ (fun w => ?_) g3 g4⟩
      rw [Sem.run_bind, g1]
      simp only [Result.andThen_ok]
      cases u <;> first
        | exact absurd rfl (g3 _ _)
        | exact absurd rfl (g4 _)
        | exact absurd rfl (g7 _ _)
        | exact absurd rfl (g8 _ _ _)
        | simp [binOp, g2]
    · cases e
/-- a part of a row of cells -/
theorem take_drop_den {l : List SV} {vs : List Value} (e : denL σ l = some vs) (a b : Nat) : denL σ ((l.drop a).take b) = some ((vs.drop a).take b) := denL_take _ _ _ (denL_drop _ _ _ e)
include hC in
theorem partS_ok {t off : Nat} {l : List SV} {s : SV} {vs : List Value} (e : C.partS t l off = some s) (hl : denL σ l = some vs) :
    ∃ v, den σ s = some v ∧ ∀ k : Value → Prop, k v → partk C.P t vs.toArray off k := by
  unfold Cx.partS at e
  simp only [Option.bind_eq_some_iff, hC.info, hC.und] at e
  obtain ⟨i, hi, e⟩ := e
  have hx : ∀ a b : Nat, vs.toArray.extract a (a + b) = ((vs.drop a).take b).toArray := fun a b => by
    simp only [List.extract_toArray, List.extract_eq_take_drop]
    congr 2; omega
  split at e
  · rename_i ht
    cases e
    exact ⟨_, by simp only [den, take_drop_den hl]; rfl, fun k hk => by unfold partk; simp only [ht, hi, hx]; exact hk⟩
  · rename_i ht
    cases e
    exact ⟨_, by simp only [den, take_drop_den hl]; rfl, fun k hk => by unfold partk; simp only [ht, hi, hx]; exact hk⟩
  · rename_i d h1 h2 ht
    obtain ⟨v, hv, hg⟩ := denL_get l vs off s hl e
    refine ⟨v, hv, fun k hk => ?_⟩
    unfold partk
    have hg' : vs.toArray[off]? = some v := by simpa using hg
    rw [ht, hi]
    cases d <;> first
      | exact (h1 _ rfl).elim
      | exact (h2 _ _ rfl).elim
      | (simp only [hg']; exact hk)
  · cases e
/-- block b's cells -/
def BlkF (h : Heap) (b : Nat) (l : List Value) (t : TypeId) : Prop := ∃ fz, h[b]? = some (.cells l.toArray t fz)
theorem BlkF.rd {h : Heap} {b : Nat} {l : List Value} {t : TypeId} (hb : BlkF h b l t) {o : Nat} {v : Value} (hv : l[o]? = some v) : Vm.rd h ⟨b, o, none⟩ = some v := by
  obtain ⟨fz, hb⟩ := hb
  simp [Vm.rd, hb, hv]
theorem BlkF.rdN {h : Heap} {b : Nat} {l : List Value} {t : TypeId} (hb : BlkF h b l t) (o : Nat) (vs : List Value) (hv : (l.drop o).take vs.length = vs) : Vm.rdN h b o vs := by
  intro j v hj
  refine hb.rd ?_
  have hlt := (List.getElem?_eq_some_iff.1 hj).1
  have h1 : (l.drop o)[j]? = some v := by
    rw [← hv, List.getElem?_take] at hj
    rw [if_pos hlt] at hj
    exact hj
  rwa [List.getElem?_drop] at h1
theorem row_rd (hO : Obs st σ h) {id : Nat} {l : List SV} {t : Nat} {g : Option Nat} (e : rowOf st id = some (l, t, g)) :
    ∃ q vs tl, σ id = some q ∧ denL σ l = some vs ∧ (∀ v ∈ vs, v.oneCell' = true) ∧ BlkF h q.1 (vs ++ tl) t ∧ gR q (vs ++ tl).length tl g := by
  unfold rowOf at e
  split at e
  · rename_i l' t' g' w' ho
    cases e
    obtain ⟨q, hq, vs, tl, fz, h1, h2, h3, h4, h5⟩ := hO.obj _ _ ho
    exact ⟨q, vs, tl, hq, h1, h2, ⟨fz, h3⟩, h4⟩
  · cases e
theorem row_wr (hO : Obs st σ h) {id : Nat} {l : List SV} {t : Nat} {g : Option Nat} (e : rowW st id = some (l, t, g)) :
    ∃ q vs tl, σ id = some q ∧ denL σ l = some vs ∧ (∀ v ∈ vs, v.oneCell' = true) ∧ Blk h q.1 (vs ++ tl) t ∧ gR q (vs ++ tl).length tl g ∧ st.hp.get id = some (.row l t g true) := by
  unfold rowW at e
  split at e
  · rename_i l' t' g' ho
    cases e
    obtain ⟨q, hq, vs, tl, fz, h1, h2, h3, h4, h5⟩ := hO.obj _ _ ho
    rw [h5 rfl] at h3
    exact ⟨q, vs, tl, hq, h1, h2, h3, h4, ho⟩
  · cases e
include hC in
theorem loadS_ok (hO : Obs st σ h) {t id off : Nat} {s : SV} (e : C.loadS st t id off = some s) :
    ∃ q v, σ id = some q ∧ den σ s = some v ∧ ∀ k : Value → Prop, k v → loadk C.P t q.1 off h k := by
  unfold Cx.loadS at e
  simp only [Option.bind_eq_some_iff, hC.info, hC.und] at e
  obtain ⟨⟨l, t', g⟩, hr, i, hi, e⟩ := e
  obtain ⟨q, vs, tl, hq, hl, h1, hb, _⟩ := row_rd hO hr
  have hlen := denL_length _ _ hl
  have agg : ∀ (n : Nat), off + n ≤ l.length → ((vs.drop off).take n).length = n ∧ Vm.rdN h q.1 off ((vs.drop off).take n) := fun n hn => by
    have hln : ((vs.drop off).take n).length = n := by simp only [List.length_take, List.length_drop, hlen]; omega
    refine ⟨hln, hb.rdN off _ ?_⟩
    rw [hln, List.drop_append_of_le_length (by omega), List.take_append_of_le_length (by simp only [List.length_drop]; omega)]
  split at e
  · rename_i ht
    split at e
    · rename_i hn
      cases e
      obtain ⟨g1, g2⟩ := agg _ hn
      exact ⟨q, _, hq, by simp only [den, take_drop_den hl]; rfl, fun k hk => by unfold loadk; simp only [ht, hi]; exact ⟨_, g1, g2, hk⟩⟩
    · cases e
  · rename_i ht
    split at e
    · rename_i hn
      cases e
      obtain ⟨g1, g2⟩ := agg _ hn
      exact ⟨q, _, hq, by simp only [den, take_drop_den hl]; rfl, fun k hk => by unfold loadk; simp only [ht, hi]; exact ⟨_, g1, g2, hk⟩⟩
    · cases e
  · rename_i d k1 k2 ht
    obtain ⟨v, hv, hg⟩ := denL_get l vs off s hl e
    refine ⟨q, v, hq, hv, fun k hk => ?_⟩
    have hlt := (List.getElem?_eq_some_iff.1 hg).1
    have hrd : Vm.rd h ⟨q.1, off, none⟩ = some v := hb.rd (by rw [List.getElem?_append_left hlt]; exact hg)
    unfold loadk
    rw [ht, hi]
    cases d <;> first
      | exact (k1 _ rfl).elim
      | exact (k2 _ _ rfl).elim
      | exact ⟨v, hrd, hk⟩
  · cases e
theorem addk_ok {b off n : Nat} {k : Addr → Prop} (hk : k ⟨b, off + n, none⟩) : addk ⟨b, off, none⟩ n k := hk
theorem addi_ok {b off i s : Nat} {k : Addr → Prop} (hk : k ⟨b, off + i * s, none⟩) : addi ⟨b, off, none⟩ i s k := by
  unfold addi
  split
  · rename_i e; subst e; rw [Nat.mul_one] at hk; exact hk
  · exact hk
theorem fieldOf_ok (hC : CxOk C) {t i : Nat} {f : Field} (e : fieldOf C t i = some f) : ∃ fs, C.P.underlying t = some (.struct fs) ∧ fs[i]? = some f := by
  unfold fieldOf at e
  rw [hC.und] at e
  split at e
  · rename_i fs ht; exact ⟨fs, ht, by simpa using e⟩
  · cases e
theorem lenS_ok {s : SV} {n : Nat} {v : Value} (e : lenS s = some n) (hv : den σ s = some v) : ∃ A c, v = .slice A n c ∧ n ≤ c ∧ c ≤ maxLen := by
  unfold lenS at e
  split at e
  · cases e; rw [den_sn hv]; exact ⟨_, _, rfl, Nat.le_refl _, Nat.zero_le _⟩
  · cases e; obtain ⟨q, _, hn, rfl⟩ := den_sl hv; exact ⟨_, _, rfl, hn⟩
  · cases e; obtain ⟨q, _, hn, rfl⟩ := den_sg hv; exact ⟨_, _, rfl, by omega, by omega⟩
  · cases e; obtain ⟨q, _, hn, rfl⟩ := den_se hv; exact ⟨_, _, rfl, by omega, by omega⟩
  · cases e
/-- an element of a string -/
theorem bytesOf_get {l : List Nat} {n b : Nat} (hl : l.all (Nat.blt · 256) = true) (e : l[n]? = some b) : (bytesOf l)[n]? = some (UInt8.ofNat b) ∧ (UInt8.ofNat b).toNat = b := by
  obtain ⟨hn, hb⟩ := List.getElem?_eq_some_iff.1 e
  have hs : n < (bytesOf l).size := by rw [bytesOf_size]; exact hn
  have hlt : b < 256 := by
    have := List.all_eq_true.1 hl b (List.mem_of_getElem? e)
    simpa using this
  refine ⟨?_, UInt8.toNat_ofNat_of_lt' hlt⟩
  rw [getElem?_pos (bytesOf l) n hs]
  congr 1
  show (bytesOf l).data[n] = _
  simp [bytesOf, hb]
theorem bytesOf_cut (l : List Nat) (a b : Nat) : (bytesOf l).extract a b = bytesOf ((l.drop a).take (b - a)) := by
  apply ByteArray.ext
  simp only [bytesOf, ByteArray.data_extract, List.extract_toArray]
  rw [List.extract_eq_take_drop]
  congr 1
  rw [List.map_take, List.map_drop]
theorem all_cut {l : List Nat} (hl : l.all (Nat.blt · 256) = true) (a b : Nat) : ((l.drop a).take b).all (Nat.blt · 256) = true := by
  simp only [List.all_eq_true] at *
  exact fun x hx => hl x (List.mem_of_mem_drop (List.mem_of_mem_take hx))
end
end Go.Proofs.YtdielfpgekenkaaGreatDoor.Sx
namespace Go.Proofs.YtdielfpgekenkaaGreatDoor.Sx
open Go Vm
set_option linter.unusedSimpArgs false
set_option linter.unusedVariables false
section
variable {C : Cx} (hC : CxOk C) {st : St} {σ : Env} {h : Heap} {sf : SF} {fr : Fr}
theorem evk_ok {x : Operand} {v : Value} {k : Value → Prop} (e : ev fr x = some v) (hk : k v) : evk fr x k := by simp only [evk, e]; exact hk
theorem den_noagg {s : SV} {v : Value} (e : den σ s = some v) (hs : ∀ l, s ≠ .agg l) (a : Array Value) : v ≠ .agg a := by
  rintro rfl
  cases s <;> simp [den, Option.bind_eq_some_iff] at e
  exact hs _ rfl
theorem den_cells {s : SV} {v : Value} (e : den σ s = some v) : ∃ us, denL σ (cellsS s) = some us ∧ v.cells = us.toArray := by
  by_cases hs : ∃ l, s = .agg l
  · obtain ⟨l, rfl⟩ := hs
    simp only [den, Option.map_eq_some_iff] at e
    obtain ⟨us, h1, rfl⟩ := e
    exact ⟨us, h1, rfl⟩
  · have hs' : ∀ l, s ≠ .agg l := fun l e => hs ⟨l, e⟩
    have hv := den_noagg e hs'
    refine ⟨[v], ?_, ?_⟩
    · have : cellsS s = [s] := by cases s <;> first | rfl | exact absurd rfl (hs' _)
      rw [this]
      simp only [denL, e, Option.bind_some, Option.map_some]
    · cases v <;> first | rfl | exact absurd rfl (hv _)
theorem set_run : ∀ (us : List Value) (k off : Nat) (cs : List Value), off + k + us.length ≤ cs.length →
    (us.zipIdx k).foldl (fun (cs : Array Value) x => cs.setIfInBounds (off + x.2) x.1) cs.toArray = (cs.take (off + k) ++ us ++ cs.drop (off + k + us.length)).toArray
  | [], k, off, cs, _ => by simp
  | u :: us, k, off, cs, h => by
    simp only [List.length_cons] at h
    simp only [List.zipIdx_cons, List.foldl_cons, List.setIfInBounds_toArray]
    rw [set_run us (k + 1) off (cs.set (off + k) u) (by simp only [List.length_set]; omega)]
    congr 1
    have e1 : (cs.set (off + k) u).take (off + (k + 1)) = cs.take (off + k) ++ [u] := by
      rw [List.set_eq_take_append_cons_drop, if_pos (by omega), show off + (k + 1) = (cs.take (off + k)).length + 1 by simp only [List.length_take]; omega]
      rw [List.take_length_add_append]
      simp
    have e2 : (cs.set (off + k) u).drop (off + (k + 1) + us.length) = cs.drop (off + k + (us.length + 1)) := by
      rw [List.drop_set_of_lt (by omega)]
      congr 1; omega
    rw [e1, e2]
    simp
theorem fillS_ok {place : Nat → Option (Nat × Nat)} : ∀ (ps : List (Nat × SV)) (vs : List (Nat × Value)) (cells out : List SV) (cv : List Value), denP σ ps = some vs → denL σ cells = some cv →
    fillS place cells ps = some out → ∃ ov, denL σ out = some ov ∧ Instr.fill place cv.toArray vs = some ov.toArray ∧ ov.length = cv.length
  | [], vs, cells, out, cv, e1, e2, e3 => by
    simp only [denP, Option.some.injEq] at e1; subst e1
    simp only [fillS, Option.some.injEq] at e3; subst e3
    exact ⟨cv, e2, rfl, rfl⟩
  | (i, s) :: r, vs, cells, out, cv, e1, e2, e3 => by
    simp only [denP, Option.bind_eq_some_iff, Option.map_eq_some_iff] at e1
    obtain ⟨v, hv, vr, hr, rfl⟩ := e1
    simp only [fillS, Option.bind_eq_some_iff] at e3
    obtain ⟨⟨off, size⟩, hp, e3⟩ := e3
    split at e3
    · rename_i hc
      obtain ⟨hc1, hc2⟩ := hc
      obtain ⟨us, hus, hcv⟩ := den_cells hv
      have hl := denL_length _ _ hus
      have hlc := denL_length _ _ e2
      have hus' : us.length = size := by rw [hl]; exact hc1
      subst hus'
      have hden : denL σ (cells.take off ++ cellsS s ++ cells.drop (off + us.length)) = some (cv.take off ++ us ++ cv.drop (off + us.length)) :=
        denL_append _ _ _ _ (denL_append _ _ _ _ (denL_take _ _ _ e2) hus) (denL_drop _ _ _ e2)
      obtain ⟨ov, h1, h2, h3⟩ := fillS_ok r vr _ out _ hr hden e3
      refine ⟨ov, h1, ?_, ?_⟩
      · unfold Instr.fill
        simp only [hp, hcv, List.size_toArray]
        have hno : (decide (us.length ≠ us.length) || decide (off + us.length > cv.length)) = false := by simp; omega
        simp only [hno]
        have := set_run us 0 off cv (by simp only at hc2; omega)
        simp only [Nat.add_zero] at this
        have e9 : us.toArray.zipIdx = us.zipIdx.toArray := by
          apply Array.ext'
          simp [Array.toList_zipIdx]
        rw [e9]
        simp only [List.foldl_toArray, Bool.false_eq_true, if_false]
        rw [this]
        exact h2
      · rw [h3]; simp only [List.length_append, List.length_take, List.length_drop]; omega
    · cases e3
end
end Go.Proofs.YtdielfpgekenkaaGreatDoor.Sx
namespace Go.Proofs.YtdielfpgekenkaaGreatDoor.Sx
open Go Vm
set_option linter.unusedSimpArgs false
set_option linter.unusedVariables false
section
variable {C : Cx} (hC : CxOk C) {st : St} {σ : Env} {h : Heap} {sf : SF} {fr : Fr}
/-! ### building -/
theorem mapM_sizes (P : Program) (w : World) : ∀ (fs : List Field) , (∀ f ∈ fs, ∃ i, P.info? f.type = some i) → ∃ ps : List (Nat × Nat), (fs.mapM (fun f => (do pure (f.offset, ← sizeOf f.type) : Sem (Nat × Nat)))).run P w = .ok ps w ∧
    ∀ i : Nat, ps[i]? = (fs[i]?).bind fun f => (P.info? f.type).map fun x => (f.offset, x.size)
  | [], _ => ⟨[], by simp, fun i => by simp⟩
  | f :: fs, hf => by
    obtain ⟨x, hx⟩ := hf f (by simp)
    obtain ⟨ps, h1, h2⟩ := mapM_sizes P w fs (fun g hg => hf g (by simp [hg]))
    refine ⟨(f.offset, x.size) :: ps, ?_, fun i => ?_⟩
    · simp only [List.mapM_cons, Sem.run_bind, Sem.run_pure, Result.andThen_ok, Vm.run_sizeOf hx, h1]
    · cases i with
      | zero => simp [hx]
      | succ i => simpa using h2 i
theorem zero_ok (hC : CxOk C) {t : Nat} {s : SV} (e : C.zero t = some s) : ∃ i z, C.P.info? t = some i ∧ i.zero = some z ∧ den σ s = some z := by
  unfold Cx.zero at e
  simp only [Option.bind_eq_some_iff, hC.info] at e
  obtain ⟨i, hi, z, hz, e⟩ := e
  exact ⟨i, z, hi, hz, ofV_den σ z s e⟩
theorem fill_place {p q : Nat → Option (Nat × Nat)} : ∀ (ps : List (Nat × Value)) (cs : Array Value), (∀ x ∈ ps, p x.1 = q x.1) → Instr.fill p cs ps = Instr.fill q cs ps
  | [], _, _ => rfl
  | (i, v) :: r, cs, h => by
    unfold Instr.fill
    have h0 := h (i, v) (by simp)
    simp only at h0
    rw [h0]
    cases q i with
    | none => rfl
    | some x =>
      obtain ⟨off, size⟩ := x
      simp only
      split
      · rfl
      · exact fill_place r _ (fun y hy => h y (by simp [hy]))
theorem size_map (hC : CxOk C) (t : Nat) : C.size t = (C.P.info? t).map (·.size) := by unfold Cx.size; rw [hC.info]
theorem run_zero {P : Program} {t : TypeId} {i : TypeInfo} {z : Value} (hi : P.info? t = some i) (hz : i.zero = some z) (w : World) : (zeroValue t).run P w = .ok z w := by simp [zeroValue, typeInfo, hi, hz]
theorem buildS_ok (hC : CxOk C) {t : Nat} {ps : List (Nat × SV)} {s : SV} {vs : List (Nat × Value)} (e : C.buildS t ps = some s) (hp : denP σ ps = some vs) :
    ∃ c, den σ s = some (.agg c) ∧ ∀ w, (Instr.build t vs.toArray).run C.P w = .ok (.agg c) w := by
  unfold Cx.buildS at e
  simp only [Option.bind_eq_some_iff] at e
  obtain ⟨ti, hti, z, hz, e⟩ := e
  obtain ⟨i, zv, hi, hzv, hden⟩ := zero_ok hC hz
  obtain ⟨us, hus, hcv⟩ := den_cells hden
  rw [hC.und] at e
  split at e
  · rename_i fs ht
    simp only [Option.map_eq_some_iff] at e
    obtain ⟨l, e2, rfl⟩ := e
    obtain ⟨ov, h1, h2, _⟩ := fillS_ok ps vs _ l us hp hus e2
    refine ⟨ov.toArray, by simp only [den, h1, Option.map_some], fun w => ?_⟩
    obtain ⟨pl, g1, g2⟩ := mapM_sizes C.P w fs.toList (hC.flds t ti hti fs ht)
    have hm : (fs.mapM (fun f => (do pure (f.offset, ← sizeOf f.type) : Sem (Nat × Nat)))).run C.P w = .ok pl.toArray w := by
      rw [Array.mapM_eq_mapM_toList, map_eq_pure_bind, Sem.run_bind, g1]
      rfl
    have hf : Instr.fill (pl.toArray[·]?) us.toArray vs = some ov.toArray := by
      rw [← h2]
      refine fill_place _ _ fun x _ => ?_
      simp only [List.getElem?_toArray, g2, size_map hC, Option.map_map]
      rfl
    unfold Instr.build
    simp only [Sem.run_bind, run_zero hi hzv, Result.andThen_ok, run_underlying ht, hm, hcv, List.toList_toArray, hf, Sem.run_pure]
  · rename_i n el ht
    simp only [Option.bind_eq_some_iff, Option.map_eq_some_iff] at e
    obtain ⟨sz, hs, l, e2, rfl⟩ := e
    obtain ⟨j, hj, rfl⟩ := hC.size hs
    obtain ⟨ov, h1, h2, _⟩ := fillS_ok ps vs _ l us hp hus e2
    refine ⟨ov.toArray, by simp only [den, h1, Option.map_some], fun w => ?_⟩
    unfold Instr.build
    simp only [Sem.run_bind, run_zero hi hzv, Result.andThen_ok, run_underlying ht, Vm.run_sizeOf hj, hcv, List.toList_toArray, h2, Sem.run_pure]
  · cases e
/-! ### maps -/
def mkv (e : MapEntry) : Value × Value := (e.key, e.val)
def denM (σ : Env) (es : List (SV × SV)) (mes : List MapEntry) : Prop := denL σ (es.map (·.1)) = some (mes.map (·.key)) ∧ denL σ (es.map (·.2)) = some (mes.map (·.val))
theorem bytes_beq {a b : List Nat} (ha : a.all (Nat.blt · 256) = true) (hb : b.all (Nat.blt · 256) = true) : (bytesOf a == bytesOf b) = eqNs a b := by
  rw [eqNs_ok a b ha hb]
  by_cases h : a.map UInt8.ofNat = b.map UInt8.ofNat
  · rw [decide_eq_true h]
    have : bytesOf a = bytesOf b := by unfold bytesOf; rw [h]
    rw [this]
    exact (MapKept.bytes_beq _ _).2 rfl
  · rw [decide_eq_false h, Bool.eq_false_iff]
    intro e
    have := (MapKept.bytes_beq _ _).1 e
    apply h
    have := congrArg ByteArray.toList this
    rwa [bytesOf_list, bytesOf_list] at this
/-! a key that is an array of bytes -/
def isArrD : TypeDesc → Bool
  | .array _ _ => true
  | _ => false
theorem u8sS_ok {σ : Env} : ∀ (l : List SV) (zs : List Int) (vs : List Value), u8sS l = some zs → denL σ l = some vs → vs = zs.map (Value.int .u8)
  | [], zs, vs, e, hv => by
    simp only [u8sS, Option.some.injEq] at e
    simp only [denL, Option.some.injEq] at hv
    subst e hv; rfl
  | c :: r, zs, vs, e, hv => by
    unfold u8sS at e
    split at e
    · rename_i h; cases h
    · rename_i n r' h
      cases h
      simp only [Option.map_eq_some_iff] at e
      obtain ⟨zs', e, rfl⟩ := e
      simp only [denL, den, Option.bind_some, Option.map_eq_some_iff] at hv
      obtain ⟨us, hus, rfl⟩ := hv
      rw [u8sS_ok r zs' us e hus, List.map_cons]
    · cases e
theorem eqIs_ok : ∀ a b : List Int, eqIs a b = decide (a = b)
  | [], [] => rfl
  | [], _ :: _ => rfl
  | _ :: _, [] => rfl
  | a :: x, b :: y => by
    unfold eqIs
    by_cases h : a = b
    · subst h
      rw [if_pos rfl, eqIs_ok x y]
      by_cases h2 : x = y
      · subst h2; simp
      · rw [decide_eq_false h2, decide_eq_false (by simpa using h2)]
    · rw [if_neg h, decide_eq_false (by simp [h])]
theorem arr_equal {P : Program} {kt e : TypeId} {n : Nat} {i : TypeInfo} (ht : P.underlying kt = some (.array n e)) (he : P.underlying e = some (.int .u8)) (hi : P.info? e = some i) (hs : i.size = 1) (zs ys : List Int) (h1 : zs.length = n) (h2 : ys.length = n) (w : World) :
    (Op.equal kt (.agg (zs.map (Value.int .u8)).toArray) (.agg (ys.map (Value.int .u8)).toArray)).run P w = .ok (decide (zs = ys)) w := by
  have hc : P.cellsOf e = 1 := by unfold Program.cellsOf; rw [hi]; exact hs
  have hp : P.plainKey e = true := by unfold Program.plainKey; rw [he]
  unfold Op.equal
  rw [show Op.maxDepth = 9998 + 1 + 1 from rfl, run_equalIn_array (P := P) w (9998 + 1) _ _ ht hi, hc, run_eqItems_ints he hp 9998 _ _ w _ (fun j hj => by rw [List.mem_range] at hj; omega), all_range_eq n _ _ h1 h2]
theorem arr_check {P : Program} {kt e : TypeId} {n : Nat} {i : TypeInfo} (ht : P.underlying kt = some (.array n e)) (he : P.underlying e = some (.int .u8)) (hi : P.info? e = some i) (hs : i.size = 1) (zs : List Int) (h1 : zs.length = n) (em : Bool) (w : World) :
    (Instr.checkKey em 10000 kt (.agg (zs.map (Value.int .u8)).toArray)).run P w = .ok () w := by
  have hp : P.plainKey e = true := by unfold Program.plainKey; rw [he]
  rw [show 10000 = 9998 + 1 + 1 from rfl, Instr.checkKey]
  simp only [Sem.run_bind, run_underlying ht, Result.andThen_ok]
  simp only [Std.Legacy.Range.forIn_eq_forIn_range', Std.Legacy.Range.size, Nat.sub_zero, Nat.add_one_sub_one, Nat.div_one]
  have each : ∀ j ∈ List.range' 0 n, j < zs.length := fun j hj => by
    rw [← List.range_eq_range', List.mem_range] at hj; omega
  generalize List.range' 0 n = is at each
  induction is with
  | nil => simp
  | cons j is ih =>
    have hj := each j (by simp)
    have e1 : ((zs.map (Value.int .u8)).toArray)[j * 1]? = some (.int .u8 (zs.getD j 0)) := by simp [hj]
    have p1 := run_part_plain (P := P) w hp e1
    have p2 : (Instr.checkKey em (9998 + 1) e (.int .u8 (zs.getD j 0))).run P w = .ok () w := by
      rw [Instr.checkKey]
      simp only [Sem.run_bind, run_underlying he, Result.andThen_ok]
      rfl
    simp only [List.forIn_cons, Sem.run_bind, Vm.run_sizeOf hi, hs, Result.andThen_ok, p1, p2, Sem.run_pure]
    exact ih (fun y hy => each y (by simp [hy]))
theorem arr_stays {P : Program} (zs : List Int) (w : World) : (Instr.keyThatStays (.agg (zs.map (Value.int .u8)).toArray) (.agg (zs.map (Value.int .u8)).toArray)).run P w = .ok (.agg (zs.map (Value.int .u8)).toArray) w := by
  have hs : Instr.sameBits 10000 (.agg (zs.map (Value.int .u8)).toArray) (.agg (zs.map (Value.int .u8)).toArray) = true := by
    rw [show 10000 = 9998 + 1 + 1 from rfl, Instr.sameBits]
    simp only [beq_self_eq_true, Bool.true_and, List.all_eq_true]
    intro x hx
    obtain ⟨a, b⟩ := x
    obtain ⟨k, hk1, hk2⟩ := List.mem_iff_getElem.1 hx
    simp only [List.getElem_zip, Prod.mk.injEq, List.getElem_map] at hk2
    obtain ⟨rfl, rfl⟩ := hk2
    simp [Instr.sameBits]
  unfold Instr.keyThatStays
  rw [if_pos hs]
  rfl
/-- what is asked of a key -/
def KeyOk (P : Program) (kt : TypeId) (kv : Value) : Prop := (∀ em w, (Instr.checkKey em 10000 kt kv).run P w = .ok () w) ∧ ∀ w, (Instr.keyThatStays kv kv).run P w = .ok kv w
def Same (P : Program) (kt : TypeId) (d : TypeDesc) (kv kv' : Value) (b : Bool) : Prop :=
  match isArrD d with
  | true => ∀ w, (Op.equal kt kv kv').run P w = .ok b w
  | false => Instr.sameNow d kv kv' = some b
def Find (P : Program) (kt : TypeId) (d : TypeDesc) (kv : Value) (mes : List MapEntry) (i : Nat) (r : Option (Nat × Value)) : Prop :=
  match isArrD d with
  | true => ∀ w, (Instr.findAsking kt kv mes i).run P w = .ok r w
  | false => Instr.findNow d kv mes i = some r
theorem Find.nil {P : Program} {kt : TypeId} {d : TypeDesc} {kv : Value} {i : Nat} : Find P kt d kv [] i none := by
  unfold Find
  split
  · intro w; simp [Instr.findAsking]
  · rfl
theorem Find.hit {P : Program} {kt : TypeId} {d : TypeDesc} {kv : Value} {m : MapEntry} {mes : List MapEntry} {i : Nat} (h : Same P kt d kv m.key true) : Find P kt d kv (m :: mes) i (some (i, m.val)) := by
  unfold Find
  unfold Same at h
  split
  · rename_i hd
    rw [hd] at h
    intro w
    simp [Instr.findAsking, h w]
  · rename_i hd
    rw [hd] at h
    simp only at h
    simp only [Instr.findNow, h]
theorem Find.miss {P : Program} {kt : TypeId} {d : TypeDesc} {kv : Value} {m : MapEntry} {mes : List MapEntry} {i : Nat} {r : Option (Nat × Value)} (h : Same P kt d kv m.key false) (f : Find P kt d kv mes (i + 1) r) : Find P kt d kv (m :: mes) i r := by
  unfold Find at f ⊢
  unfold Same at h
  split
  · rename_i hd
    rw [hd] at h f
    intro w
    simp [Instr.findAsking, h w, f w]
  · rename_i hd
    rw [hd] at h f
    simp only at h f
    simp only [Instr.findNow, h, f]
theorem Find.run {P : Program} {kt : TypeId} {d : TypeDesc} {kv : Value} {mes : List MapEntry} {r : Option (Nat × Value)} (hd : P.underlying kt = some d) (f : Find P kt d kv mes 0 r) (w : World) : (Instr.findKey kt kv mes).run P w = .ok r w := by
  unfold Find at f
  split at f
  · rename_i ha
    cases d <;> simp only [isArrD, Bool.false_eq_true] at ha
    rename_i n e
    cases mes with
    | nil =>
      have := f w
      simp only [Instr.findAsking, Sem.run_pure, Result.ok.injEq, and_true] at this
      subst this
      simp [Instr.findKey, run_underlying hd, Instr.findNow]
    | cons m mes =>
      have hn : Instr.findNow (.array n e) kv (m :: mes) 0 = none := by simp [Instr.findNow, Instr.sameNow]
      simp [Instr.findKey, run_underlying hd, hn, f w]
  · exact MapKept.run_findKey hd f
/-- the key of a map: a text, a number, bytes -/
def keyK (P : Program) (d : TypeDesc) (k : SV) : Prop := (d = .string ∧ ∃ l, k = .s l) ∨ (∃ b n, d = .int b ∧ k = .i b n) ∨
  ∃ n e l zs i, d = .array n e ∧ P.underlying e = some (.int .u8) ∧ P.info? e = some i ∧ i.size = 1 ∧ k = .agg l ∧ u8sS l = some zs ∧ zs.length = n
def FindR (P : Program) (σ : Env) (kt : TypeId) (d : TypeDesc) (kv : Value) (mes : List MapEntry) (i : Nat) : Option SV → Prop
  | none => Find P kt d kv mes i none
  | some u => ∃ j v, Find P kt d kv mes i (some (i + j, v)) ∧ den σ u = some v ∧ j < mes.length ∧ (mes[j]?).map (·.key) = some kv
theorem den_aggK {σ : Env} {l : List SV} {v : Value} (h : den σ (.agg l) = some v) : ∃ vs, denL σ l = some vs ∧ v = .agg vs.toArray := by
  simp only [den, Option.map_eq_some_iff] at h
  obtain ⟨vs, h1, h2⟩ := h
  exact ⟨vs, h1, h2.symm⟩
/-- one key against another one -/
theorem cmpK_ok {P : Program} {σ : Env} {kt : TypeId} {d : TypeDesc} (hd : P.underlying kt = some d) {k k' : SV} {kv kv' : Value} (hk : keyK P d k) (h1 : den σ k = some kv) (h2 : den σ k' = some kv') {b : Bool} (e : cmpK k k' = some b) :
    Same P kt d kv kv' b ∧ (kv' = kv ↔ b = true) := by
  rcases hk with ⟨rfl, l, rfl⟩ | ⟨kd, n, rfl, rfl⟩ | ⟨n, el, l, zs, i, rfl, he, hi, hs, rfl, hz, hzl⟩
  · obtain ⟨al, rfl⟩ := den_s h1
    cases k' <;> simp only [cmpK, Option.some.injEq, reduceCtorEq] at e
    rename_i l'
    obtain ⟨al', rfl⟩ := den_s h2
    have hb := bytes_beq al al'
    rw [e] at hb
    refine ⟨by show Instr.sameNow .string _ _ = some b; simp only [Instr.sameNow, hb], ?_⟩
    constructor
    · intro h
      have h' : bytesOf l' = bytesOf l := by injection h
      rw [h'] at hb
      rw [← hb]; exact (MapKept.bytes_beq _ _).2 rfl
    · intro h
      subst h
      exact congrArg _ ((MapKept.bytes_beq _ _).1 hb).symm
  · have := den_i h1; subst this
    cases k' <;> simp only [cmpK, reduceCtorEq] at e
    rename_i kd' n'
    have := den_i h2; subst this
    split at e
    · rename_i hq
      subst hq
      simp only [Option.some.injEq] at e
      subst e
      refine ⟨by show Instr.sameNow (.int kd) _ _ = _; simp only [Instr.sameNow, if_true]; congr 1, ?_⟩
      simp only [Value.int.injEq, true_and, decide_eq_true_eq]
      exact eq_comm
    · cases e
  · obtain ⟨vs, hv, rfl⟩ := den_aggK h1
    have := u8sS_ok l zs vs hz hv; subst this
    cases k' <;> simp only [cmpK, reduceCtorEq] at e
    rename_i l'
    cases hys : u8sS l' with
    | none => rw [hz, hys] at e; cases e
    | some ys =>
      rw [hz, hys] at e
      obtain ⟨vs', hv', rfl⟩ := den_aggK h2
      have := u8sS_ok l' ys vs' hys hv'; subst this
      by_cases hlen : zs.length = ys.length
      · have e' : some (eqIs zs ys) = some b := by
          rw [← e]
          show _ = (if zs.length = ys.length then some (eqIs zs ys) else none)
          rw [if_pos hlen]
        simp only [Option.some.injEq] at e'
        rw [eqIs_ok] at e'
        refine ⟨?_, ?_⟩
        · show ∀ w, _
          intro w
          rw [arr_equal hd he hi hs zs ys hzl (by omega) w, e']
        · rw [← e', decide_eq_true_eq]
          constructor
          · intro h
            have h' : ys.map (Value.int .u8) = zs.map (Value.int .u8) := by
              simpa using h
            exact ((List.map_inj_right (f := Value.int .u8) (fun a b hab => by injection hab)).1 h').symm
          · rintro rfl; rfl
      · have e' : none = some b := by
          rw [← e]
          show _ = (if zs.length = ys.length then some (eqIs zs ys) else none)
          rw [if_neg hlen]
        cases e'
theorem findS_ok {P : Program} {kt : TypeId} {d : TypeDesc} (hd' : P.underlying kt = some d) {k : SV} {kv : Value} (hk : keyK P d k) (hd : den σ k = some kv) : ∀ (es : List (SV × SV)) (mes : List MapEntry) (i : Nat) (r : Option SV), denM σ es mes → findS k es = some r → FindR P σ kt d kv mes i r
  | [], mes, i, r, hm, e => by
    obtain ⟨h1, h2⟩ := hm
    simp only [findS, Option.some.injEq] at e
    subst e
    simp only [List.map_nil, denL, Option.some.injEq] at h1
    have : mes = [] := by simpa using h1.symm
    subst this
    exact Find.nil
  | (k', u) :: es, mes, i, r, hm, e => by
    obtain ⟨h1, h2⟩ := hm
    simp only [List.map_cons, denL, Option.bind_eq_some_iff, Option.map_eq_some_iff] at h1 h2
    obtain ⟨kv', hk', ks, hks, h1⟩ := h1
    obtain ⟨uv, hu, us, hus, h2⟩ := h2
    cases mes with
    | nil => simp at h1
    | cons m mes =>
      simp only [List.map_cons, List.cons.injEq] at h1 h2
      obtain ⟨rfl, rfl⟩ := h1
      obtain ⟨rfl, rfl⟩ := h2
      unfold findS at e
      split at e
      · rename_i hc
        obtain ⟨hS, hkey⟩ := cmpK_ok hd' hk hd hk' hc
        cases e
        exact ⟨0, m.val, Find.hit hS, hu, by simp, by simp [hkey.2 rfl]⟩
      · rename_i hc
        obtain ⟨hS, _⟩ := cmpK_ok hd' hk hd hk' hc
        have ih := findS_ok hd' hk hd es mes (i + 1) r ⟨hks, hus⟩ e
        cases r with
        | none => exact Find.miss hS ih
        | some u =>
          obtain ⟨j, v, g1, g2, g3, g4⟩ := ih
          refine ⟨j + 1, v, Find.miss hS (by rw [show i + (j + 1) = i + 1 + j by omega]; exact g1), g2, by simp; omega, by simpa using g4⟩
      · cases e
theorem keyB_ok (hC : CxOk C) {kt : Nat} {k : SV} (e : C.keyB kt k = true) : ∃ d, C.P.underlying kt = some d ∧ keyK C.P d k := by
  unfold Cx.keyB at e
  rw [hC.und] at e
  split at e
  · rename_i ht
    split at e
    · exact ⟨_, ht, .inl ⟨rfl, _, rfl⟩⟩
    · cases e
  · rename_i a ht
    split at e
    · exact ⟨_, ht, .inr (.inl ⟨_, _, by rw [of_decide_eq_true e], rfl⟩)⟩
    · cases e
  · rename_i n el ht
    split at e
    · rename_i l
      simp only [Bool.and_eq_true, decide_eq_true_eq] at e
      obtain ⟨⟨e1, e2⟩, e3⟩ := e
      rw [hC.und] at e1
      have he : C.P.underlying el = some (.int .u8) := by
        unfold isU8 at e1
        split at e1
        · rename_i h; exact h
        · cases e1
      obtain ⟨i, hi, hs⟩ := hC.size e2
      simp only [Option.map_eq_some_iff] at e3
      obtain ⟨zs, hz, hl⟩ := e3
      exact ⟨_, ht, .inr (.inr ⟨n, el, l, zs, i, rfl, he, hi, hs, rfl, hz, hl⟩)⟩
    · cases e
  · cases e
theorem keyK_is {P : Program} {kt : TypeId} {d : TypeDesc} {k : SV} {kv : Value} (ht : P.underlying kt = some d) (hk : keyK P d k) (hd : den σ k = some kv) : KeyOk P kt kv := by
  rcases hk with ⟨rfl, l, rfl⟩ | ⟨b, n, rfl, rfl⟩ | ⟨n, el, l, zs, i, rfl, he, hi, hs, rfl, hz, hzl⟩
  · obtain ⟨_, rfl⟩ := den_s hd
    have hkey : MapKept.IsKey .string (.string (bytesOf l)) := trivial
    exact ⟨fun em w => MapKept.run_checkKey (P := P) (w := w) ht hkey em 9999, fun w => MapKept.run_keyThatStays (d := .string) hkey⟩
  · rw [den_i hd]
    have hkey : MapKept.IsKey (.int b) (.int b n) := rfl
    exact ⟨fun em w => MapKept.run_checkKey (P := P) (w := w) ht hkey em 9999, fun w => MapKept.run_keyThatStays (d := .int b) hkey⟩
  · obtain ⟨vs, hv, rfl⟩ := den_aggK hd
    have := u8sS_ok l zs vs hz hv; subst this
    exact ⟨fun em w => arr_check ht he hi hs zs hzl em w, fun w => arr_stays zs w⟩
theorem lookup_nil {P : Program} {t kt et : TypeId} {d : TypeDesc} (ht : P.underlying t = some (.map kt et)) (hk : P.underlying kt = some d) {kv : Value} (hkey : KeyOk P kt kv) {inf : TypeInfo} {z : Value} (hi : P.info? et = some inf) (hz : inf.zero = some z) (ok : Bool) (w : World) :
    (Instr.lookup t (.map none) kv ok).run P w = .ok (if ok then .tuple #[z, .bool false] else z) w := by
  have hc := hkey.1 true w
  have hf : (Instr.findKey kt kv []).run P w = .ok none w := Find.run hk (d := d) Find.nil w
  simp [Instr.lookup, run_underlying ht, hc, hf, run_zero hi hz]
theorem lookup_none {P : Program} {t kt et : TypeId} {d : TypeDesc} (ht : P.underlying t = some (.map kt et)) (hk : P.underlying kt = some d) {kv : Value} (hkey : KeyOk P kt kv) {inf : TypeInfo} {z : Value} (hi : P.info? et = some inf) (hz : inf.zero = some z) (ok : Bool) {w : World}
    {r c : Nat} {es : Array MapEntry} (hb : w.heap[r]? = some (.map es c)) (hf : Find P kt d kv es.toList 0 none) :
    (Instr.lookup t (.map (some r)) kv ok).run P w = .ok (if ok then .tuple #[z, .bool false] else z) w := by
  have hc := hkey.1 es.isEmpty w
  have hf := hf.run hk w
  simp [Instr.lookup, run_underlying ht, MapKept.run_getObj_map hb, hc, hf, run_zero hi hz]
theorem lookup_some {P : Program} {t kt et : TypeId} {d : TypeDesc} (ht : P.underlying t = some (.map kt et)) (hk : P.underlying kt = some d) {kv : Value} (hkey : KeyOk P kt kv) (ok : Bool) {w : World}
    {r c j : Nat} {v : Value} {es : Array MapEntry} (hb : w.heap[r]? = some (.map es c)) (hf : Find P kt d kv es.toList 0 (some (j, v))) :
    (Instr.lookup t (.map (some r)) kv ok).run P w = .ok (if ok then .tuple #[v, .bool true] else v) w := by
  have hc := hkey.1 es.isEmpty w
  have hf := hf.run hk w
  simp [Instr.lookup, run_underlying ht, MapKept.run_getObj_map hb, hc, hf]
theorem map_obs (hO : Obs st σ h) {id : Nat} {es : List (SV × SV)} (e : mapOf st id = some es) :
    ∃ q mes c, σ id = some q ∧ h[q.1]? = some (.map mes c) ∧ denM σ es mes.toList ∧ st.hp.get id = some (.map es) ∧ MapKept.Stamped mes c := by
  unfold mapOf at e
  split at e
  · rename_i es' ho
    cases e
    obtain ⟨q, hq, mes, c, h1, h2, h3, h4⟩ := hO.obj _ _ ho
    exact ⟨q, mes, c, hq, h1, ⟨h2, h3⟩, ho, h4⟩
  · cases e
theorem lenM_ok (hO : Obs st σ h) {P : Program} {T kt et : TypeId} {v : SV} {es : List (SV × SV)} {mv : Value} (ht : P.underlying T = some (.map kt et)) (he : esOf st v = some es) (hmv : den σ v = some mv) :
    ∀ ty w, ExtH h w.heap → (Builtin.len_ #[T] ty #[mv]).run P w = .ok (.int .i64 (Int.ofNat es.length)) w := by
  intro ty w hw
  unfold esOf at he
  split at he
  · cases he
    rw [den_mn hmv]
    simp [Builtin.len_, run_underlying ht, goInt]
  · obtain ⟨q, mes, c, hq, hb, hm, _, _⟩ := map_obs hO he
    obtain ⟨q', hq', rfl⟩ := den_m hmv
    rw [hq] at hq'; cases hq'
    have hbw : w.heap[q.1]? = some (.map mes c) := by rw [hw.block _ (Array.getElem?_eq_some_iff.1 hb).1]; exact hb
    have hl := denL_length _ _ hm.1
    simp only [List.length_map, Array.length_toList] at hl
    simp [Builtin.len_, run_underlying ht, MapKept.run_getObj_map hbw, goInt, hl]
  · cases he
theorem lookup_ok (hC : CxOk C) (hO : Obs st σ h) {t kt et : Nat} {v k s : SV} {es : List (SV × SV)} {r : Option SV} {ok : Bool} {mv kv : Value} (ht : C.P.underlying t = some (.map kt et)) (hk : C.keyB kt k = true)
    (he : esOf st v = some es) (hf : findS k es = some r) (hs : C.found et ok r = some s) (hmv : den σ v = some mv) (hkv : den σ k = some kv) :
    ∃ u, den σ s = some u ∧ ∀ w, ExtH h w.heap → (Instr.lookup t mv kv ok).run C.P w = .ok u w := by
  obtain ⟨d, hd, hkk⟩ := keyB_ok hC hk
  have hkey := keyK_is hd hkk hkv
  have tupS : ∀ (u : SV) (x : Value) (b : Bool), den σ u = some x → den σ (if ok then .tup [u, .b b] else u) = some (if ok then .tuple #[x, .bool b] else x) := fun u x b hu => by
    cases ok with
    | true => simp [den, denL, hu]
    | false => simpa using hu
  unfold esOf at he
  split at he
  · cases he
    simp only [findS, Option.some.injEq] at hf
    subst hf
    simp only [Cx.found, Option.map_eq_some_iff] at hs
    obtain ⟨z, hz, rfl⟩ := hs
    obtain ⟨i, zv, hi, hzv, hden⟩ := zero_ok hC hz
    rw [den_mn hmv]
    exact ⟨_, tupS _ _ _ hden, fun w _ => lookup_nil ht hd hkey hi hzv ok w⟩
  · obtain ⟨q, mes, c, hq, hb, hm, _, _⟩ := map_obs hO he
    obtain ⟨q', hq', rfl⟩ := den_m hmv
    rw [hq] at hq'; cases hq'
    have hF := findS_ok hd hkk hkv es mes.toList 0 r hm hf
    have hbw : ∀ w : World, ExtH h w.heap → w.heap[q.1]? = some (.map mes c) := fun w hw => by rw [hw.block _ (Array.getElem?_eq_some_iff.1 hb).1]; exact hb
    cases r with
    | none =>
      simp only [Cx.found, Option.map_eq_some_iff] at hs
      obtain ⟨z, hz, rfl⟩ := hs
      obtain ⟨i, zv, hi, hzv, hden⟩ := zero_ok hC hz
      exact ⟨_, tupS _ _ _ hden, fun w hw => lookup_none ht hd hkey hi hzv ok (hbw w hw) hF⟩
    | some u =>
      simp only [Cx.found, Option.some.injEq] at hs
      subst hs
      obtain ⟨j, x, g1, g2, _, _⟩ := hF
      exact ⟨_, tupS _ _ _ g2, fun w hw => lookup_some ht hd hkey ok (hbw w hw) g1⟩
  · cases he
end
end Go.Proofs.YtdielfpgekenkaaGreatDoor.Sx
