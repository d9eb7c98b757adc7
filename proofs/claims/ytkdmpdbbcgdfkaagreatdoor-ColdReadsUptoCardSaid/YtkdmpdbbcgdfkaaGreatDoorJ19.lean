/-
  The operations of the evaluator that write memory: stores, append.
  The other operations of the evaluator: conversions, copy, maps, calls.
-/
import Derived.Test.YtkdmpdbbcgdfkaaGreatDoorJ18
import Derived.Lib.AppendStr
import Derived.Lib.ConvBytes
import Derived.Laws.IdiomStrings
import Derived.Laws.BytesArg
import Derived.Laws.Small
namespace Go.Proofs.YtkdmpdbbcgdfkaaGreatDoor.Sx
open Go Vm
set_option linter.unusedSimpArgs false
set_option linter.unusedVariables false
section
variable {C : Cx} (hC : CxOk C) {ng : Nat} {st : St} {σ : Env} {h : Heap} {sf : SF} {fr : Fr} {β : Type} {k : SV → St → Option β} {r : β}
theorem gR_len {q : Nat × Nat} {n : Nat} {tl : List Value} {g : Option Nat} (H : gR q n tl g) {n' : Nat} (e : n' = n) : gR q n' tl g := e ▸ H
/-- a row's cells, turned in a part -/
theorem row_turn (H : Rep ng st σ h) {id off : Nat} {l new : List SV} {us : List Value} {t : Nat} {g : Option Nat} (e : rowW st id = some (l, t, g)) (hu : denL σ new = some us) (ho : ∀ v ∈ us, v.oneCell' = true) (hf : off + new.length ≤ l.length) :
    ∃ q cur, σ id = some q ∧ Blk h q.1 cur t ∧ off + us.length ≤ cur.length ∧ ∀ h', Wrote h h' q.1 (splice cur off us) t → ∀ {k : St → Option β} {r : β}, writeS st id (.row (l.take off ++ new ++ l.drop (off + new.length)) t g true) k = some r →
      ∃ st', k st' = some r ∧ Goes ng st σ h st' σ h' := by
  obtain ⟨q, vs, tl, hq, hl, h1, hb, hg, ho'⟩ := row_wr (H.obs (Pre.refl _)) e
  have e1 := denL_length _ _ hl
  have e2 := denL_length _ _ hu
  refine ⟨q, vs ++ tl, hq, hb, by simp only [List.length_append]; omega, fun h' hw k r e => ?_⟩
  have hs : splice (vs ++ tl) off us = (vs.take off ++ us ++ vs.drop (off + us.length)) ++ tl := by
    unfold splice
    rw [List.take_append_of_le_length (by omega), List.drop_append_of_le_length (by omega)]
    simp
  rw [hs] at hw
  have hob : objR σ q (some (.cells ((vs.take off ++ us ++ vs.drop (off + us.length)) ++ tl).toArray t (0, 0))) (.row (l.take off ++ new ++ l.drop (off + new.length)) t g true) := by
    refine ⟨vs.take off ++ us ++ vs.drop (off + us.length), tl, (0, 0), ?_, ?_, rfl, gR_len hg ?_, fun _ => rfl⟩
    · rw [← e2]
      exact denL_append _ _ _ _ (denL_append _ _ _ _ (denL_take _ _ _ hl) hu) (denL_drop _ _ _ hl)
    · intro v hv
      simp only [List.mem_append] at hv
      rcases hv with (hv | hv) | hv
      · exact h1 v (List.mem_of_mem_take hv)
      · exact ho v hv
      · exact h1 v (List.mem_of_mem_drop hv)
    · simp only [List.length_append, List.length_take, List.length_drop]; omega
  obtain ⟨st', e', hG, _⟩ := writeS_ok H ho' rfl hq (Wrote.turns hw) hob e
  exact ⟨st', e', hG⟩
/-- a row's cells, turned in a part -/
theorem row_turn2 (H : Rep ng st σ h) {id off : Nat} {l new : List SV} {us : List Value} {t : Nat} {g : Option Nat} (e : rowW st id = some (l, t, g)) (hu : denL σ new = some us) (ho : ∀ v ∈ us, v.oneCell' = true) (hf : off + new.length ≤ l.length) :
    ∃ q cur, σ id = some q ∧ Blk h q.1 cur t ∧ off + us.length ≤ cur.length ∧ ∀ h', Wrote h h' q.1 (splice cur off us) t → ∀ {k : St → Option β} {r : β}, writeS st id (.row (l.take off ++ new ++ l.drop (off + new.length)) t g true) k = some r →
      ∃ st', k st' = some r ∧ Goes ng st σ h st' σ h' ∧ st'.n = st.n ∧ st'.low = min st.low id := by
  obtain ⟨q, vs, tl, hq, hl, h1, hb, hg, ho'⟩ := row_wr (H.obs (Pre.refl _)) e
  have e1 := denL_length _ _ hl
  have e2 := denL_length _ _ hu
  refine ⟨q, vs ++ tl, hq, hb, by simp only [List.length_append]; omega, fun h' hw k r e => ?_⟩
  have hs : splice (vs ++ tl) off us = (vs.take off ++ us ++ vs.drop (off + us.length)) ++ tl := by
    unfold splice
    rw [List.take_append_of_le_length (by omega), List.drop_append_of_le_length (by omega)]
    simp
  rw [hs] at hw
  have hob : objR σ q (some (.cells ((vs.take off ++ us ++ vs.drop (off + us.length)) ++ tl).toArray t (0, 0))) (.row (l.take off ++ new ++ l.drop (off + new.length)) t g true) := by
    refine ⟨vs.take off ++ us ++ vs.drop (off + us.length), tl, (0, 0), ?_, ?_, rfl, gR_len hg ?_, fun _ => rfl⟩
    · rw [← e2]
      exact denL_append _ _ _ _ (denL_append _ _ _ _ (denL_take _ _ _ hl) hu) (denL_drop _ _ _ hl)
    · intro v hv
      simp only [List.mem_append] at hv
      rcases hv with (hv | hv) | hv
      · exact h1 v (List.mem_of_mem_take hv)
      · exact ho v hv
      · exact h1 v (List.mem_of_mem_drop hv)
    · simp only [List.length_append, List.length_take, List.length_drop]; omega
  obtain ⟨st', e', hG, h5, _, h6⟩ := writeS_ok H ho' rfl hq (Wrote.turns hw) hob e
  exact ⟨st', e', hG, h5, h6⟩
include hC in
theorem store_ok (hF : Frm σ sf fr) (H : Rep ng st σ h) {o : Oper} {T : Nat} {x y : Operand} (ho : o.op = .store T x y) {call : Nat → List SV → St → Option (SV × St)} (e : C.opi call o sf st k = some r) : Vm.opi C.P o fr h (Out ng st σ h k r) := by
  unfold Cx.opi at e
  simp only [ho, Option.bind_eq_some_iff] at e
  obtain ⟨xs, hx, ys, hy, e⟩ := e
  obtain ⟨xv, x1, x2⟩ := evO_ok hF hx
  obtain ⟨yv, y1, y2⟩ := evO_ok hF hy
  split at e
  · rename_i id off
    unfold Cx.storeS at e
    simp only [Option.bind_eq_some_iff] at e
    obtain ⟨⟨l, t, g⟩, hr, s, hs, e⟩ := e
    obtain ⟨i, hi, rfl⟩ := hC.size hs
    split at e
    · rename_i hc
      obtain ⟨c1, c2, c3⟩ := hc
      rw [forceVs_eq] at e
      obtain ⟨us, hus, hcv⟩ := den_cells y2
      have e2 := denL_length _ _ hus
      obtain ⟨q, cur, hq, hb, hle, hw⟩ := row_turn H hr hus (onesB_ok _ _ c3 hus) (by rw [c1]; exact c2) (β := β)
      obtain ⟨q', hq', rfl⟩ := den_p x2
      rw [hq] at hq'; cases hq'
      unfold Vm.opi
      simp only [ho, evk_of x1, evk_of y1, hi]
      have fin : ∀ h', Wrote h h' q.1 (splice cur off us) t → Out ng st σ h k r undef h' := fun h' w => by
        rw [← c1] at e
        obtain ⟨st', e', hG⟩ := hw h' w e
        exact ⟨undefS, st', σ, e', rfl, hG⟩
      unfold storek
      have hones := onesB_ok _ _ c3 hus
      split
      · rename_i cs
        simp only [Value.cells] at hcv
        subst hcv
        refine ⟨cur, t, hb, ⟨by simpa using hle, by simp only [List.size_toArray]; omega, by simpa using hones⟩, fun h' w => fin h' (by simpa using w)⟩
      · simp only [Value.cells] at hcv
        rename_i tv
        have : us = [.tuple tv] := by simpa using hcv.symm
        subst this
        have := hones _ (List.mem_singleton.2 rfl)
        cases this
      · rename_i hna hnt
        have hus1 : us = [yv] := by
          have : yv.cells = #[yv] := by cases yv <;> first | rfl | exact absurd rfl (hna _)
          rw [this] at hcv
          simpa using hcv.symm
        subst hus1
        simp only [List.length_singleton] at hle e2
        rw [if_pos (by omega)]
        refine ⟨cur, t, hb, by omega, fun h' w => fin h' ?_⟩
        have : splice cur off [yv] = cur.set off yv := by
          unfold splice
          rw [List.set_eq_take_append_cons_drop, if_pos (by omega)]
          simp
        rw [this]
        exact w
    · cases e
  · cases e
/-! ### append -/
theorem append_zero {P : Program} {t ty e : TypeId} {i : TypeInfo} (ht : P.underlying t = some (.slice e)) (hi : P.info? e = some i) (A B : Option Addr) {n c c' : Nat} (hn : n ≤ c) (w : World) :
    (Builtin.append_ #[t, t] ty #[.slice A n c, .slice B 0 c']).run P w = .ok (.slice A n c) w := by
  have hl : ∀ (x : Addr), (loadCells x 0).run P w = .ok #[] w := fun x => by simpa using run_loadCells_list (P := P) w x [] (by simp)
  cases A <;> cases B <;> simp [Builtin.append_, run_underlying ht, Vm.run_sizeOf hi, Builtin.lenOf, Builtin.firstCells, hn, storeCells, hl]
/-- a slice that is read, off a row -/
theorem src_of (hO : Obs st σ h) {z n : Nat} {x : SV} {new : List SV} {xv : Value} (hn : lenS x = some n) (he : Cx.elemsS st z x = some new) (hx : den σ x = some xv) (h0 : n ≠ 0) :
    ∃ ds, denL σ new = some ds ∧ Src h z xv n ds ∧ (∀ u ∈ ds, u.oneCell' = true) := by
  have mk : ∀ (id off cap : Nat) (q : Nat × Nat), σ id = some q → xv = .slice (some ⟨q.1, off, none⟩) n cap → n ≤ cap → cap ≤ maxLen →
      ((rowOf st id).bind fun r => if off + n * z ≤ r.1.length then some ((r.1.drop off).take (n * z)) else none) = some new → ∃ ds, denL σ new = some ds ∧ Src h z xv n ds ∧ (∀ u ∈ ds, u.oneCell' = true) := by
    intro id off cap q hq hxv h1 h2 he
    simp only [Option.bind_eq_some_iff] at he
    obtain ⟨⟨l, t, g⟩, hr, he⟩ := he
    split at he
    · rename_i hlen
      cases he
      obtain ⟨q', vs, tl, hq', hl, ho, hb, _⟩ := row_rd hO hr
      rw [hq] at hq'; cases hq'
      have e1 := denL_length _ _ hl
      simp only at hlen
      have e2 : ((vs.drop off).take (n * z)).length = n * z := by simp only [List.length_take, List.length_drop]; omega
      refine ⟨_, take_drop_den hl _ _, ⟨e2, .inr ⟨_, cap, hxv, h1, h2, rdA_plain.2 (hb.rdN off _ ?_)⟩⟩, fun u hu => ho u (List.mem_of_mem_drop (List.mem_of_mem_take hu))⟩
      rw [e2, List.drop_append_of_le_length (by omega), List.take_append_of_le_length (by simp only [List.length_drop]; omega)]
    · cases he
  unfold lenS at hn
  split at hn
  · cases hn; exact absurd rfl h0
  · cases hn
    obtain ⟨q, hq, hc, hv⟩ := den_sl hx
    exact mk _ _ _ q hq hv hc.1 hc.2 he
  · cases hn
    obtain ⟨q, hq, hc, hv⟩ := den_sg hx
    exact mk _ _ _ q hq hv (by omega) (by omega) he
  · cases hn; exact absurd rfl h0
  · cases hn
theorem zcells (hC : CxOk C) {e : Nat} {zs : SV} {i : TypeInfo} (hz : C.zero e = some zs) (hi : C.P.info? e = some i) (hl : (cellsS zs).length = i.size) : ∃ z, i.zero = some z ∧ z.cells.size = i.size := by
  obtain ⟨i', z, hi', hz', hd⟩ := zero_ok hC hz (σ := fun _ => none)
  rw [hi] at hi'; cases hi'
  obtain ⟨us, h1, h2⟩ := den_cells hd
  exact ⟨z, hz', by rw [h2]; simp only [List.size_toArray]; rw [denL_length _ _ h1]; exact hl⟩
/-- what may be appended: n elements, the cells ds -/
structure Tail (P : Program) (t t2 ty e : TypeId) (i : TypeInfo) (xv : Value) (n : Nat) (ds : List Value) (h : Heap) : Prop where
  len : ds.length = n * i.size
  one : ∀ u ∈ ds, u.oneCell' = true
  nil : ∀ z w, w.heap = h → i.zero = some z → n ≤ maxLen → n * i.bytes ≤ 140737488355328 → (Builtin.append_ #[t, t2] ty #[.slice none 0 0, xv]).run P w =
      .ok (.slice (some ⟨w.heap.size, 0, none⟩) n (grownCap w n 0 e)) (w.drew.alloc (.cells (ds.toArray ++ Builtin.zeroCells z.cells (grownCap w n 0 e - n)) e))
  room : ∀ w, w.heap = h → ∀ (g sLen sCap : Nat) (cur : Array Value), w.heap[g]? = some (.cells cur e (0, 0)) → sLen + n ≤ sCap → sLen * i.size + ds.length ≤ cur.size → (Builtin.append_ #[t, t2] ty #[.slice (some ⟨g, 0, none⟩) sLen sCap, xv]).run P w =
      .ok (.slice (some ⟨g, 0, none⟩) (sLen + n) sCap) (w.setRow g (cur.toList.take (sLen * i.size) ++ ds ++ cur.toList.drop (sLen * i.size + ds.length)).toArray)
  grow : ∀ z w, w.heap = h → i.zero = some z → ∀ (b : Addr) (sLen sCap : Nat) (olds : List Value), olds.length = sLen * i.size → (∀ j v, olds[j]? = some v → w.cell? (b.add j) = some v) → sCap < sLen + n → sLen + n ≤ maxLen → (sLen + n) * i.bytes ≤ 140737488355328 →
      (Builtin.append_ #[t, t2] ty #[.slice (some b) sLen sCap, xv]).run P w =
      .ok (.slice (some ⟨w.heap.size, 0, none⟩) (sLen + n) (grownCap w (sLen + n) sCap e)) (w.drew.alloc (.cells (olds.toArray ++ ds.toArray ++ Builtin.zeroCells z.cells (grownCap w (sLen + n) sCap e - (sLen + n))) e))
theorem tail_slice {P : Program} {t ty e : TypeId} {i : TypeInfo} (ht : P.underlying t = some (.slice e)) (hi : P.info? e = some i) {xv : Value} {n : Nat} {ds : List Value} (hs : Src h i.size xv n ds) (h1 : ∀ u ∈ ds, u.oneCell' = true) (h0 : n ≠ 0) : Tail P t t ty e i xv n ds h := by
  rcases hs.2 with ⟨_, h00⟩ | ⟨X, c, rfl, hmc, hcm, hr⟩
  · exact absurd h00 h0
  · have hnews : ∀ w : World, w.heap = h → ∀ j u, ds[j]? = some u → w.cell? (X.add j) = some u := fun w hw j u hu => by rw [cell_eq_rd, hw]; exact hr j u hu
    refine ⟨hs.1, h1, fun z w hw hz hm hb => ?_, fun w hw g sLen sCap cur hg hroom hfit => ?_, fun z w hw hz b sLen sCap olds hlo ho hg hm hb => ?_⟩
    · exact run_append_nil (P := P) w t ty e i z ht hi hz X n c ds hs.1 (hnews w hw) (by omega) (by simp only [maxLen] at hm; omega) (by omega)
    · exact run_append_room (P := P) w t ty e i ht hi g sLen sCap cur hg X n c ds hs.1 (hnews w hw) h1 hroom hfit
    · exact run_append_grow (P := P) w t ty e i z ht hi hz b sLen sCap olds hlo ho X n c ds hs.1 (hnews w hw) hg (by simp only [maxLen] at hm; omega) (growslice_fits (by omega) hb)
def vbyte (b : Nat) : Value := .int .u8 (Int.ofNat b)
theorem str_cells {l : List Nat} (al : l.all (Nat.blt · 256) = true) : Lib.strCells (bytesOf l) = l.map vbyte := by
  unfold Lib.strCells
  simp only [bytesOf, List.toList_toArray, List.map_map]
  apply List.map_congr_left
  intro b hb
  have hlt : b < 256 := by simpa using List.all_eq_true.1 al b hb
  simp only [Function.comp, UInt8.toNat_ofNat_of_lt' hlt, vbyte]
  rfl
theorem tail_str {P : Program} {t u ty e : TypeId} {i : TypeInfo} (ht : P.underlying t = some (.slice e)) (hu : P.underlying u = some .string) (hi : P.info? e = some i) (hs1 : i.size = 1) {l : List Nat} (al : l.all (Nat.blt · 256) = true) (h0 : l.length ≠ 0) :
    Tail P t u ty e i (.string (bytesOf l)) l.length (l.map vbyte) h := by
  have hsz := bytesOf_size l
  have hc := str_cells al
  refine ⟨by simp [hs1], fun v hv => ?_, fun z w hw hz hm hb => ?_, fun w hw g sLen sCap cur hg hroom hfit => ?_, fun z w hw hz b sLen sCap olds hlo ho hg hm hb => ?_⟩
  · obtain ⟨b, _, rfl⟩ := List.mem_map.1 hv; rfl
  · have := run_append_nil_string (P := P) w t u ty e i z ht hu hi hz (bytesOf l) (by omega) (by rw [hsz]; simp only [maxLen] at hm; omega) (by rw [hsz]; omega)
    rw [hsz] at this
    rw [this]
    congr 4
    apply Array.ext'
    rw [List.toList_toArray, ← hc]
    unfold Lib.strCells
    simp
  · have := Lib.run_append_room_string (P := P) w t u ty e i ht hu hi hs1 g sLen sCap cur hg (bytesOf l) (by rw [hsz]; exact hroom) (by rw [hsz]; simpa [hs1] using hfit)
    rw [hsz, hc] at this
    simpa [hs1] using this
  · have := Lib.run_append_grow_string (P := P) w t u ty e i z ht hu hi hz b sLen sCap olds hlo ho (bytesOf l) (by rw [hsz]; exact hg) (by rw [hsz]; simp only [maxLen] at hm; omega) (by rw [hsz]; exact growslice_fits (by omega) hb)
    rw [hsz, hc] at this
    exact this
theorem tail_own {P : Program} {t t2 ty e : TypeId} {i : TypeInfo} {z : Value} (hz : i.zero = some z) (hzs : z.cells.size = i.size) {v x : Value} {n m : Nat} {xs ds : List Value} (hd : OwnS h e i.size v n xs) (T : Tail P t t2 ty e i x m ds h) (h0 : m ≠ 0)
    (hm : n + m ≤ maxLen) (hb : (n + m) * i.bytes ≤ 140737488355328) : RunsV P (Builtin.append_ #[t, t2] ty #[v, x]) h (Appended e i.size v h (n + m) (xs ++ ds)) := by
  intro w hw
  have hw0 := hw
  subst hw
  have hlen : (xs ++ ds).length = (n + m) * i.size := by rw [List.length_append, hd.1, T.len, Nat.add_mul]
  rcases hd.2 with ⟨rfl, rfl⟩ | ⟨g, cap, tl, rfl, hg, hnc, hcm', hcl⟩
  · have hx : xs = [] := List.eq_nil_of_length_eq_zero (by simpa using hd.1)
    subst hx
    have hrun := T.nil z w rfl hz (by omega) (by simp only [Nat.zero_add] at hb; exact hb)
    refine ⟨_, _, hrun, ⟨rfl, rfl, rfl⟩, ?_, (alloc_ext w _).chg, fun d hd' => .inr (by rw [ob_slice] at hd'; omega)⟩
    simp only [Nat.zero_add, List.nil_append] at hlen hm ⊢
    exact owns_grown hzs rfl hlen (grownCap_ge w m 0 e) (grownCap_le_maxLen w m 0 e hm)
  · by_cases hroom : n + m ≤ cap
    · have hfit : n * i.size + ds.length ≤ (xs ++ tl).toArray.size := by
        rw [T.len, ← Nat.add_mul]
        simp only [List.size_toArray, hcl]
        exact Nat.mul_le_mul_right _ hroom
      have hrun := T.room w rfl g n cap (xs ++ tl).toArray hg hroom hfit
      have hwr := heap_setRow w g (((xs ++ tl).toArray.toList.take (n * i.size) ++ ds ++ (xs ++ tl).toArray.toList.drop (n * i.size + ds.length)).toArray) (xs ++ tl).toArray e hg
      have ecells : (xs ++ tl).toArray.toList.take (n * i.size) ++ ds ++ (xs ++ tl).toArray.toList.drop (n * i.size + ds.length) = (xs ++ ds) ++ tl.drop ds.length := by
        simp only [← hd.1]
        rw [List.take_left, List.drop_append]
        simp
      refine ⟨_, _, hrun, ⟨rfl, rfl, rfl⟩, ⟨hlen, .inr ⟨g, cap, tl.drop ds.length, rfl, ?_, hroom, hcm', ?_⟩⟩, ?_, fun d hd' => .inl (by rw [ob_slice] at hd' ⊢; exact hd')⟩
      · have := hwr.new
        rw [ecells] at this
        simpa [ecells] using this
      · rw [← hcl]
        simp only [List.length_append, List.length_drop, T.len]
        simp only [List.size_toArray, List.length_append, hd.1] at hfit
        rw [T.len] at hfit
        rw [hd.1]
        omega
      · exact hwr.chg.mono (fun k _ hk => by rw [ob_slice]; exact hk)
    · have holds : ∀ j u, xs[j]? = some u → w.cell? ((⟨g, 0, none⟩ : Addr).add j) = some u := fun j u hu => by
        rw [add_none, cell_eq_rd]
        exact hg.rdN 0 xs (by simp) j u hu
      have hrun := T.grow z w rfl hz ⟨g, 0, none⟩ n cap xs hd.1 holds (by omega) hm hb
      refine ⟨_, _, hrun, ⟨rfl, rfl, rfl⟩, ?_, (alloc_ext w _).chg, fun d hd' => .inr (by rw [ob_slice] at hd'; omega)⟩
      have := owns_grown (e := e) (w := w) hzs rfl hlen (grownCap_ge w (n + m) cap e) (grownCap_le_maxLen w (n + m) cap e hm)
      simpa using this
/-- a slice that has grown: its row -/
theorem grown_obj {σ' : Env} {g cap z N : Nat} {e : Nat} {l : List SV} {xs tl : List Value} {h' : Heap} (hl : denL σ' l = some xs) (ho : ∀ u ∈ xs, u.oneCell' = true) (hb : Blk h' g (xs ++ tl) e) (hc : cap ≤ maxLen) (hlen : (xs ++ tl).length = cap * z) :
    objR σ' (g, cap) h'[g]? (.row l e (some z) true) := ⟨xs, tl, (0, 0), hl, ho, hb, ⟨hlen, hc⟩, fun _ => rfl⟩
theorem own_new (H : Rep ng st σ h) {l : List SV} {xs : List Value} {el z N : Nat} {v' : Value} {h' : Heap} (hl : denL σ l = some xs) (h1 : ∀ u ∈ xs, u.oneCell' = true) (hown : OwnS h' el z v' N xs) (hN : N ≠ 0) (hx : ExtH h h') (hob : ∀ b, ob v' b → h.size ≤ b)
    (e : (newS st (.row l el (some z) true) fun id st => k (.sg id 0 0 N) st) = some r) : Out ng st σ h k r v' h' := by
  rcases hown.2 with ⟨_, h00⟩ | ⟨g, cap, tl, rfl, hb, hnc, hcm, hcl⟩
  · exact absurd h00 hN
  · have hg : h.size ≤ g := hob g (ob_slice.2 rfl)
    unfold newS at e
    obtain ⟨hp, ek, hpg⟩ := setK_some _ _ _ _ _ _ e
    rw [forceN_eq] at ek
    have hpre := upd_pre (g, cap) (H.none_n (Nat.le_refl st.n))
    refine ⟨_, _, upd σ st.n (g, cap), ek, ?_, ?_⟩
    · simp only [den, upd_same, Option.bind_some]
      rw [if_pos ⟨by omega, hcm⟩]
      simp
    · refine H.grown (S := fun _ => False) hx.chg (kill := fun _ => False) (o := .row l el (some z) true) (ob := .cells (xs ++ tl).toArray el (0, 0)) (fun _ h => h.elim) (fun _ _ _ _ _ _ h => h) (.inr hg) hb (fun _ h => h.elim) rfl (Nat.le_refl _) ?_ (fun _ h => h.elim) (fun j _ hj => ?_) ?_
      · simp [hpg]
      · simp [hpg, hj]
      · have := grown_obj (denL_mono hpre _ _ hl) h1 hb hcm hcl (N := 0)
        rw [show h'[g]? = some (.cells (xs ++ tl).toArray el (0, 0)) from hb] at this
        exact this
set_option maxHeartbeats 4000000 in
include hC in
theorem appendN_ok (H : Rep ng st σ h) {t t2 ty el len n c : Nat} {s zv : SV} {xv : Value} {A : Option Addr} {new : List SV} {ds : List Value} {i : TypeInfo} (hi : C.P.info? el = some i) (hzv : C.zero el = some zv) (hlen : lenS s = some len)
    (ha1 : len ≤ c) (ha2 : c ≤ maxLen) (e : C.appendN st el i.size zv len n new s k = some r) (hs : den σ s = some (.slice A len c)) (T : Tail C.P t t2 ty el i xv n ds h) (h0 : n ≠ 0) (hds : denL σ new = some ds) :
    RunsV C.P (Builtin.append_ #[t, t2] ty #[.slice A len c, xv]) h (Out ng st σ h k r) := by
  have hd1 := T.one
  unfold Cx.appendN at e
  split at e
  · rename_i hc
    obtain ⟨hc1, hc2⟩ := hc
    obtain ⟨b1, b2⟩ := hC.roomB hi hc2
    obtain ⟨zz, hzz, hzs⟩ := zcells hC hzv hi hc1
    have hm : len + n ≤ maxLen := by simp only [maxLen]; omega
    have hby : (len + n) * i.bytes ≤ 140737488355328 := by omega
    have eds := denL_length _ _ hds
    split at e
    · -- nil
      simp only [lenS, Option.some.injEq] at hlen
      subst hlen
      simp only [den, Option.some.injEq, Value.slice.injEq] at hs
      obtain ⟨rfl, _, rfl⟩ := hs
      rw [forceVs_eq] at e
      have ha := tail_own hzz hzs (OwnS.nil h el i.size) T h0 hm hby
      intro w hw
      obtain ⟨v', w', hr, hse, hown, hchg, hob⟩ := ha w hw
      refine ⟨v', w', hr, hse, ?_⟩
      simp only [Nat.zero_add, List.nil_append] at hown
      have hxx : ExtH w.heap w'.heap := by rw [hw]; exact (hchg.mono (T := fun _ => False) fun b _ hb => (ob_nil hb).elim).ext fun _ h => h.elim
      exact own_new H hds hd1 hown h0 (hw ▸ hxx) (fun b hb => by
        rcases hob b hb with hx | hx
        · exact (ob_nil hx).elim
        · exact hx) e
    · -- a slice whose room is known
      rename_i id off len' cap'
      simp only [lenS, Option.some.injEq] at hlen
      subst hlen
      obtain ⟨q, hq, hqc, hv⟩ := den_sl hs
      simp only [Value.slice.injEq] at hv
      obtain ⟨rfl, _, rfl⟩ := hv
      have eds2 : new.length = n * i.size := by rw [← eds]; exact T.len
      split at e
      · rename_i hroom
        split at e
        · rename_i hoff
          subst hoff
          simp only [Option.bind_eq_some_iff] at e
          obtain ⟨⟨l, t', g⟩, hr, e⟩ := e
          split at e
          · rename_i hc3
            obtain ⟨hc3, hc4⟩ := hc3
            simp only at hc3 hc4
            subst hc4
            rw [forceVs_eq] at e
            have hfit : len' * i.size + new.length ≤ l.length := by rw [eds2, ← Nat.add_mul]; exact hc3
            obtain ⟨q2, cur, hq2, hb, hle, hwr⟩ := row_turn H hr hds hd1 hfit (β := β)
            rw [hq] at hq2; cases hq2
            intro w hw
            subst hw
            have hrun := T.room w rfl q.1 len' c cur.toArray hb hroom (by simpa using hle)
            have hws := heap_setRow w q.1 ((cur.toArray.toList.take (len' * i.size) ++ ds ++ cur.toArray.toList.drop (len' * i.size + ds.length)).toArray) cur.toArray t' hb
            rw [eds2.symm] at e
            have hsp : splice cur (len' * i.size) ds = ((cur.toArray.toList.take (len' * i.size) ++ ds ++ cur.toArray.toList.drop (len' * i.size + ds.length)).toArray).toList := by simp [splice]
            obtain ⟨st', e', hG⟩ := hwr _ (by rw [hsp]; exact hws) e
            refine ⟨_, _, hrun, ⟨rfl, rfl, rfl⟩, _, st', σ, e', ?_, hG⟩
            simp only [den]
            rw [if_pos ⟨hroom, hqc.2⟩, hq]
            rfl
          · cases e
        · cases e
      · rename_i hroom
        simp only [Option.bind_eq_some_iff] at e
        obtain ⟨⟨l, t', g⟩, hr, e⟩ := e
        split at e
        · rename_i hc3
          simp only at hc3
          rw [forceVs_eq] at e
          obtain ⟨q2, vs, tl, hq2, hl, hv1, hb, _⟩ := row_rd (H.obs (Pre.refl _)) hr
          rw [hq] at hq2; cases hq2
          have elv := denL_length _ _ hl
          have eold : ((vs.drop off).take (len' * i.size)).length = len' * i.size := by simp only [List.length_take, List.length_drop]; omega
          have hrdN : Vm.rdN h q.1 off ((vs.drop off).take (len' * i.size)) := hb.rdN off _ (by
            rw [eold, List.drop_append_of_le_length (by omega), List.take_append_of_le_length (by simp only [List.length_drop]; omega)])
          intro w hw
          subst hw
          have hrun := T.grow zz w rfl hzz ⟨q.1, off, none⟩ len' c _ eold (fun j u hu => by rw [cell_eq_rd, add_none]; exact hrdN j u hu) (by omega) hm hby
          have hlen2 : ((vs.drop off).take (len' * i.size) ++ ds).length = (len' + n) * i.size := by rw [List.length_append, eold, T.len, Nat.add_mul]
          have hown := owns_grown (e := el) (w := w) hzs rfl hlen2 (grownCap_ge w (len' + n) c el) (grownCap_le_maxLen w (len' + n) c el hm)
          refine ⟨_, _, hrun, ⟨rfl, rfl, rfl⟩, ?_⟩
          refine own_new H (denL_append _ _ _ _ (take_drop_den hl _ _) hds) (fun u hu => ?_) (by simpa using hown) (by omega) (alloc_ext w _) (fun b hb => by rw [ob_slice] at hb; omega) e
          simp only [List.mem_append] at hu
          rcases hu with hu | hu
          · exact hv1 u (List.mem_of_mem_drop (List.mem_of_mem_take hu))
          · exact hd1 u hu
        · cases e
    · -- one that has grown
      rename_i id off eo len'
      simp only [lenS, Option.some.injEq] at hlen
      subst hlen
      obtain ⟨q, hq, hqc, hv⟩ := den_sg hs
      split at e
      · rename_i h00
        obtain ⟨rfl, rfl⟩ := h00
        simp only [Nat.zero_add, Nat.sub_zero, Value.slice.injEq] at hv hqc
        obtain ⟨rfl, _, rfl⟩ := hv
        simp only [Option.bind_eq_some_iff] at e
        obtain ⟨⟨l, t', g⟩, hr, e⟩ := e
        split at e
        · rename_i hc3
          obtain ⟨hc3, hc4, hc5⟩ := hc3
          simp only at hc3 hc4 hc5
          subst hc4 hc5
          rw [forceVs_eq] at e
          obtain ⟨q2, vs, tl, hq2, hl, hv1, hb, hgr, hget⟩ := row_wr (H.obs (Pre.refl _)) hr
          rw [hq] at hq2; cases hq2
          have elv := denL_length _ _ hl
          have eold : (vs.take (len' * i.size)).length = len' * i.size := by simp only [List.length_take]; omega
          have hownv : OwnS h t' i.size (.slice (some ⟨q.1, 0, none⟩) len' q.2) len' (vs.take (len' * i.size)) := by
            refine ⟨eold, .inr ⟨q.1, q.2, vs.drop (len' * i.size) ++ tl, rfl, ?_, hqc.1, hqc.2, ?_⟩⟩
            · rw [← List.append_assoc, List.take_append_drop]; exact hb
            · rw [← List.append_assoc, List.take_append_drop]; exact hgr.1
          have ha := tail_own hzz hzs hownv T h0 hm hby
          intro w hw
          obtain ⟨v', w', hrun, hse, hown, hchg, hob⟩ := ha w hw
          refine ⟨v', w', hrun, hse, ?_⟩
          rcases hown.2 with ⟨_, h00⟩ | ⟨g, cap, tl', rfl, hb', hnc, hcm, hcl⟩
          · omega
          · have hg : g = q.1 ∨ h.size ≤ g := by
              rcases hob g (ob_slice.2 rfl) with hx | hx
              · exact .inl (ob_slice.1 hx)
              · exact .inr hx
            unfold writeS newS at e
            obtain ⟨hp, ek, hpg⟩ := setK_some _ _ _ _ _ _ e
            rw [forceN_eq] at ek
            obtain ⟨hp2, ek, hpg2⟩ := setK_some _ _ _ _ _ _ ek
            rw [forceN_eq] at ek
            have hpre := upd_pre (g, cap) (H.none_n (Nat.le_refl st.n))
            have hidn : id ≠ st.n := fun e => by have := (H.dom id q hq).1; omega
            have hall : denL σ (l.take (len' * i.size) ++ new) = some (vs.take (len' * i.size) ++ ds) := denL_append _ _ _ _ (denL_take _ _ _ hl) hds
            refine ⟨_, _, upd σ st.n (g, cap), ek, ?_, ?_⟩
            · simp only [den, upd_same, Option.bind_some]
              rw [if_pos ⟨by omega, hcm⟩]
              simp
            · refine H.grown (S := fun b => b = q.1) (hchg.mono fun b _ hb => ob_slice.1 hb) (kill := fun j => j = id) (o := .row (l.take (len' * i.size) ++ new) t' (some i.size) true) (ob := .cells ((vs.take (len' * i.size) ++ ds) ++ tl').toArray t' (0, 0))
                (fun j hj => ⟨_, hj ▸ hget⟩) (fun j o q' ho hl hq' hqq => H.inj j id o _ q' q ho hget hl rfl hq' hq hqq) hg hb' (fun b hb => ⟨id, q, Nat.min_le_right _ _, hq, hb.symm⟩) rfl (Nat.min_le_left _ _) ?_ (fun j hj hjn => ?_) (fun j hj hjn => ?_) ?_
              · simp only [hpg2, if_true]
              · exact (hpg2 j).trans ((if_neg hjn).trans ((hpg j).trans (if_pos hj)))
              · simp only [hpg2, if_neg hjn, hpg, if_neg hj]
              · have := grown_obj (denL_mono hpre _ _ hall) (fun u hu => ?_) hb' hcm hcl (N := 0)
                · rw [show w'.heap[g]? = some (.cells ((vs.take (len' * i.size) ++ ds) ++ tl').toArray t' (0, 0)) from hb'] at this
                  exact this
                · simp only [List.mem_append] at hu
                  rcases hu with hu | hu
                  · exact hv1 u (List.mem_of_mem_take hu)
                  · exact hd1 u hu
        · cases e
      · cases e
    · cases e
  · cases e
theorem append_zero_s {P : Program} {t u ty e : TypeId} {i : TypeInfo} (ht : P.underlying t = some (.slice e)) (hu : P.underlying u = some .string) (hi : P.info? e = some i) (A : Option Addr) {n c : Nat} (hn : n ≤ c) (w : World) :
    (Builtin.append_ #[t, u] ty #[.slice A n c, .string (bytesOf [])]).run P w = .ok (.slice A n c) w := by
  cases A <;> simp [Builtin.append_, run_underlying ht, run_underlying hu, Vm.run_sizeOf hi, Builtin.lenOf, Builtin.firstCells, hn, storeCells, bytesOf, ByteArray.size]
include hC in
theorem append_ok (H : Rep ng st σ h) {t t2 ty : Nat} {s x : SV} {sv xv : Value} (e : C.appendS st t t2 s x k = some r) (hs : den σ s = some sv) (hx : den σ x = some xv) :
    RunsV C.P (Builtin.append_ #[t, t2] ty #[sv, xv]) h (Out ng st σ h k r) := by
  unfold Cx.appendS at e
  rw [hC.und] at e
  split at e
  · rename_i el ht
    simp only [Option.bind_eq_some_iff] at e
    obtain ⟨z, hz, zv, hzv, len, hlen, ⟨n, new⟩, hq, e⟩ := e
    obtain ⟨i, hi, rfl⟩ := hC.size hz
    obtain ⟨A, c, rfl, ha1, ha2⟩ := lenS_ok hlen hs
    unfold Cx.tailS at hq
    split at hq
    · rename_i l
      rw [hC.und] at hq
      split at hq
      · rename_i hu
        split at hq
        · rename_i hc
          cases hq
          obtain ⟨al, rfl⟩ := den_s hx
          cases hl : l.length with
          | zero =>
            rw [hl] at e
            have : l = [] := List.eq_nil_of_length_eq_zero hl
            subst this
            intro w hw
            subst hw
            exact ⟨_, w, append_zero_s ht hu hi A ha1 w, SameEnv.refl w, s, st, σ, e, hs, Goes.refl H⟩
          | succ m =>
            have T := tail_str (ty := ty) (h := h) ht hu hi hc.2 al (by omega)
            rw [hl] at e T
            exact appendN_ok hC H hi hzv hlen ha1 ha2 e hs T (Nat.succ_ne_zero m) (by
              have : ∀ l : List Nat, denL σ (l.map cellB) = some (l.map vbyte) := by
                intro l
                induction l with
                | nil => rfl
                | cons b l ih => simp only [List.map_cons, denL, ih, den, cellB, Option.bind_some, Option.map_some, vbyte]
              exact this l)
        · cases hq
      · cases hq
    · split at hq
      · rename_i htt
        subst htt
        simp only [Option.bind_eq_some_iff] at hq
        obtain ⟨m, hm, hq⟩ := hq
        obtain ⟨B, c', rfl, hb1, hb2⟩ := lenS_ok hm hx
        split at hq
        · rename_i h0
          cases hq
          subst h0
          intro w hw
          subst hw
          exact ⟨_, w, append_zero ht hi A B ha1 w, SameEnv.refl w, s, st, σ, e, hs, Goes.refl H⟩
        · rename_i h0
          simp only [Option.map_eq_some_iff] at hq
          obtain ⟨new', hnew, hq⟩ := hq
          cases hq
          obtain ⟨ds, hds, hsrc, hd1⟩ := src_of (H.obs (Pre.refl _)) hm hnew hx h0
          have T := tail_slice (ty := ty) ht hi hsrc hd1 h0
          cases n with
          | zero => exact absurd rfl h0
          | succ m => exact appendN_ok hC H hi hzv hlen ha1 ha2 e hs T h0 hds
      · cases hq
  · cases e
end
end Go.Proofs.YtkdmpdbbcgdfkaaGreatDoor.Sx
namespace Go.Proofs.YtkdmpdbbcgdfkaaGreatDoor.Sx
open Go Vm
set_option linter.unusedSimpArgs false
set_option linter.unusedVariables false
section
variable {C : Cx} (hC : CxOk C) {ng : Nat} {st : St} {σ : Env} {h : Heap} {sf : SF} {fr : Fr} {β : Type} {k : SV → St → Option β} {r : β}
theorem isU8_ok {d : Option TypeDesc} (h : isU8 d = true) : d = some (.int .u8) := by
  unfold isU8 at h
  split at h
  · rfl
  · cases h
theorem cells_den (σ : Env) : ∀ l : List Nat, denL σ (l.map cellB) = some (l.map vbyte)
  | [] => rfl
  | b :: l => by simp only [List.map_cons, denL, cells_den σ l, den, cellB, Option.bind_some, Option.map_some, vbyte]
theorem bytesS_ok {σ : Env} : ∀ (l : List SV) (bs : List Nat) (vs : List Value), bytesS l = some bs → denL σ l = some vs → bs.all (Nat.blt · 256) = true ∧ vs = bs.map vbyte
  | [], bs, vs, h, e => by
    simp only [bytesS, Option.some.injEq] at h; subst h
    simp only [denL, Option.some.injEq] at e; subst e
    exact ⟨rfl, rfl⟩
  | c :: l, bs, vs, h, e => by
    simp only [bytesS, Option.bind_eq_some_iff, Option.map_eq_some_iff] at h
    obtain ⟨b, hb, bs', hbs, rfl⟩ := h
    simp only [denL, Option.bind_eq_some_iff, Option.map_eq_some_iff] at e
    obtain ⟨v, hv, vs', hvs, rfl⟩ := e
    obtain ⟨h1, h2⟩ := bytesS_ok l bs' vs' hbs hvs
    unfold byteOf at hb
    split at hb
    · split at hb
      · rename_i hlt
        cases hb
        have := den_i hv
        subst this
        refine ⟨?_, ?_⟩
        · simp only [List.all_cons, h1, Bool.and_true]; exact hlt
        · simp only [List.map_cons, h2]; rfl
      · cases hb
    · cases hb
theorem bytes_env (w : World) (e : TypeId) (s : ByteArray) : SameEnv w (Lib.bytesWorld w e s) := by
  unfold Lib.bytesWorld World.freeze
  split <;> exact ⟨rfl, rfl, rfl⟩
include hC in
theorem conv_ok (H : Rep ng st σ h) {s t : Nat} {x : SV} {v : Value} (e : C.convS st s t x k = some r) (hx : den σ x = some v) : RunsV C.P (convert s t v) h (Out ng st σ h k r) := by
  unfold Cx.convS at e
  simp only [hC.und] at e
  split at e
  · rename_i el hs ht
    split at e
    · rename_i l
      split at e
      · rename_i hc
        simp only [Bool.and_eq_true, Nat.blt_eq] at hc
        have he := isU8_ok hc.1
        obtain ⟨al, rfl⟩ := den_s hx
        intro w hw
        subst hw
        refine ⟨_, _, Lib.run_convert_string_bytes w s t el (bytesOf l) hs ht he, bytes_env w el (bytesOf l), ?_⟩
        have hN : Newed w.heap (Lib.bytesWorld w el (bytesOf l)).heap (.cells (Lib.bytesCells w el (bytesOf l)) el ((Lib.bytesCells w el (bytesOf l)).size, (Lib.bytesCells w el (bytesOf l)).size + 1)) :=
          ⟨Lib.bytesWorld_size _ _ _, Lib.bytesWorld_at_new _ _ _, fun b hb => Lib.bytesWorld_at_old _ _ _ b hb⟩
        have hge := grownCap_ge w (bytesOf l).size 0 el
        have hle := grownCap_le_maxLen w (bytesOf l).size 0 el (by rw [bytesOf_size]; simp only [maxLen]; omega)
        rw [bytesOf_size] at hge hle ⊢
        have hbc : Lib.bytesCells w el (bytesOf l) = ((l.map vbyte) ++ List.replicate (grownCap w l.length 0 el - l.length) (Value.int .u8 0)).toArray := by
          unfold Lib.bytesCells
          apply Array.ext'
          rw [bytesOf_size]
          simp only [Array.toList_append, Array.toList_map, Array.toList_replicate, List.toList_toArray, bytesOf, List.map_map]
          congr 1
          apply List.map_congr_left
          intro b hb
          have hlt : b < 256 := by simpa using List.all_eq_true.1 al b hb
          simp only [Function.comp, UInt8.toNat_ofNat_of_lt' hlt, vbyte]
          rfl
        have hob : ∀ σ', Pre σ σ' → objR σ' (w.heap.size, grownCap w l.length 0 el) (some (.cells (Lib.bytesCells w el (bytesOf l)) el ((Lib.bytesCells w el (bytesOf l)).size, (Lib.bytesCells w el (bytesOf l)).size + 1))) (.row (l.map cellB) el (some 1) false) := fun σ' _ =>
          ⟨_, _, _, cells_den σ' l, fun v hv => by obtain ⟨b, _, rfl⟩ := List.mem_map.1 hv; rfl, by rw [hbc], ⟨by simp only [List.length_append, List.length_map, List.length_replicate]; omega, hle⟩, fun h => by cases h⟩
        obtain ⟨st', e', hG⟩ := newS_ok H (cap := grownCap w l.length 0 el) hN hob e
        refine ⟨_, st', _, e', ?_, hG⟩
        simp only [den, upd_same, Option.bind_some]
        rw [if_pos ⟨by omega, hle⟩]
        rfl
      · cases e
    · cases e
  · rename_i el hs ht
    split at e
    · rename_i hc
      have he := isU8_ok hc
      simp only [Option.bind_eq_some_iff] at e
      obtain ⟨n, hn, l, hl, bs, hbs, e⟩ := e
      obtain ⟨A, c, rfl, h1, h2⟩ := lenS_ok hn hx
      by_cases h0 : n = 0
      · subst h0
        have hl0 : l = [] := by
          unfold lenS at hn
          split at hn
          · simp only [Cx.elemsS, Option.some.injEq] at hl; exact hl.symm
          · cases hn
            simp only [Cx.elemsS, Option.bind_eq_some_iff] at hl
            obtain ⟨_, _, hl⟩ := hl
            split at hl
            · simpa using hl.symm
            · cases hl
          · cases hn
            simp only [Cx.elemsS, Option.bind_eq_some_iff] at hl
            obtain ⟨_, _, hl⟩ := hl
            split at hl
            · simpa using hl.symm
            · cases hl
          · simp only [Cx.elemsS, Option.some.injEq] at hl; exact hl.symm
          · cases hn
        subst hl0
        simp only [bytesS, Option.some.injEq] at hbs
        subst hbs
        intro w hw
        subst hw
        cases A with
        | none => exact ⟨_, w, run_convert_bytes_nil w s el hs he 0 c t ht, SameEnv.refl w, _, st, σ, e, by rfl, Goes.refl H⟩
        | some a => exact ⟨_, w, run_convert_bytes_back w s t el a c [] hs he ht (fun j hj => by simp at hj), SameEnv.refl w, _, st, σ, e, by rfl, Goes.refl H⟩
      · obtain ⟨ds, hds, hsrc, _⟩ := src_of (H.obs (Pre.refl _)) hn hl hx h0
        obtain ⟨hb1, rfl⟩ := bytesS_ok l bs ds hbs hds
        have hlen : bs.length = n := by have := hsrc.1; simpa using this
        rcases hsrc.2 with ⟨_, h00⟩ | ⟨X, cx, hv, _, _, hr⟩
        · exact absurd h00 h0
        · simp only [Value.slice.injEq] at hv
          obtain ⟨rfl, _, rfl⟩ := hv
          intro w hw
          subst hw
          have hrun := run_convert_bytes_back (P := C.P) w s t el X c (bs.map UInt8.ofNat) hs he ht (fun j hj => by
            rw [cell_eq_rd]
            simp only [List.length_map] at hj
            have hlt : bs[j] < 256 := by simpa using List.all_eq_true.1 hb1 _ (List.getElem_mem hj)
            have := hr j (.int .u8 (bs[j] : Int)) (by simp [hj, vbyte])
            simpa [UInt8.toNat_ofNat_of_lt' hlt] using this)
          simp only [List.length_map, hlen] at hrun
          exact ⟨_, w, hrun, SameEnv.refl w, _, st, σ, e, den_str hb1, Goes.refl H⟩
    · cases e
  · cases e
include hC in
theorem copy_ok (H : Rep ng st σ h) {t t2 ty : Nat} {d x : SV} {dv xv : Value} (e : C.copyS st t d x k = some r) (hd : den σ d = some dv) (hx : den σ x = some xv) :
    RunsV C.P (Builtin.copy_ #[t, t2] ty #[dv, xv]) h (Out ng st σ h k r) := by
  unfold Cx.copyS at e
  rw [hC.und] at e
  split at e
  · rename_i el ht
    simp only [Option.bind_eq_some_iff] at e
    obtain ⟨z, hz, dn, hdn, xn, hxn, e⟩ := e
    obtain ⟨i, hi, rfl⟩ := hC.size hz
    obtain ⟨D, dc, rfl, hd1, hd2⟩ := lenS_ok hdn hd
    obtain ⟨X, xc, rfl, hx1, hx2⟩ := lenS_ok hxn hx
    split at e
    · rename_i h1
      have hs1 : (C.P.info? el).map (·.size) = some 1 := by rw [hi]; exact congrArg some h1
      split at e
      · rename_i h0
        intro w hw
        subst hw
        exact ⟨_, w, run_copy_none (P := C.P) w t t2 ty el D X dn dc xn xc ht hs1 h0, SameEnv.refl w, _, st, σ, e, rfl, Goes.refl H⟩
      · rename_i h0
        simp only [Option.bind_eq_some_iff] at e
        obtain ⟨new, hnew, e⟩ := e
        have hxn0 : xn ≠ 0 := fun h => h0 (by rw [h]; exact Nat.zero_min _)
        obtain ⟨ds, hds, hsrc, hd3⟩ := src_of (H.obs (Pre.refl _)) hxn hnew hx hxn0
        have e2 := denL_length _ _ hds
        have elen : ds.length = xn := by have := hsrc.1; simpa using this
        rcases hsrc.2 with ⟨_, h00⟩ | ⟨XA, cx, hv, _, _, hr⟩
        · exact absurd h00 hxn0
        · simp only [Value.slice.injEq] at hv
          obtain ⟨rfl, _, rfl⟩ := hv
          have fin : ∀ (id off : Nat) (q : Nat × Nat) (l : List SV) (t' : Nat) (g : Option Nat), σ id = some q → D = some ⟨q.1, off, none⟩ → rowW st id = some (l, t', g) → off + min xn dn ≤ l.length →
              writeS st id (.row (l.take off ++ new.take (min xn dn) ++ l.drop (off + min xn dn)) t' g true) (fun st => k (.i .i64 (Int.ofNat (min xn dn))) st) = some r →
              RunsV C.P (Builtin.copy_ #[t, t2] ty #[.slice D dn dc, .slice (some XA) xn xc]) h (Out ng st σ h k r) := by
            intro id off q l t' g hq hD hr' hfit e
            subst hD
            have hcs : (ds.take (min xn dn)).length = min xn dn := by simp only [List.length_take, elen]; omega
            have hcsS : (new.take (min xn dn)).length = min xn dn := by simp only [List.length_take]; omega
            obtain ⟨q2, cur, hq2, hb, hle, hwr⟩ := row_turn H hr' (denL_take (min xn dn) _ _ hds) (fun v hv => hd3 v (List.mem_of_mem_take hv)) (by rw [hcsS]; exact hfit) (β := β)
            rw [hq] at hq2; cases hq2
            intro w hw
            subst hw
            have hrun := run_copy_row (P := C.P) w t t2 ty el q.1 off dn dc XA xn xc cur.toArray t' (ds.take (min xn dn)) ht hs1 hb hcs (fun j u hu => by
              rw [cell_eq_rd]
              refine hr j u ?_
              rw [List.getElem?_take] at hu
              split at hu
              · exact hu
              · cases hu) (by simpa using hle) (fun v hv => hd3 v (List.mem_of_mem_take hv))
            have hws := heap_setRow w q.1 ((cur.toArray.toList.take off ++ ds.take (min xn dn) ++ cur.toArray.toList.drop (off + (ds.take (min xn dn)).length)).toArray) cur.toArray t' hb
            have hsp : splice cur off (ds.take (min xn dn)) = ((cur.toArray.toList.take off ++ ds.take (min xn dn) ++ cur.toArray.toList.drop (off + (ds.take (min xn dn)).length)).toArray).toList := by simp [splice]
            rw [← hcsS] at e
            have e' : writeS st id (.row (l.take off ++ new.take (min xn dn) ++ l.drop (off + (new.take (min xn dn)).length)) t' g true) (fun st => k (.i .i64 (Int.ofNat (min xn dn))) st) = some r := by
              rw [hcsS] at e ⊢
              exact e
            obtain ⟨st', e', hG⟩ := hwr _ (by rw [hsp]; exact hws) e'
            refine ⟨_, _, hrun, ⟨rfl, rfl, rfl⟩, _, st', σ, e', ?_, hG⟩
            rw [hcs]; rfl
          split at e
          · rename_i id off len' cap'
            simp only [Option.bind_eq_some_iff] at e
            obtain ⟨⟨l, t', g⟩, hr', e⟩ := e
            split at e
            · rename_i hfit
              rw [forceVs_eq] at e
              obtain ⟨q, hq, _, hv⟩ := den_sl hd
              simp only [Value.slice.injEq] at hv
              exact fin id off q l t' g hq hv.1 hr' hfit e
            · cases e
          · rename_i id off eo len'
            simp only [Option.bind_eq_some_iff] at e
            obtain ⟨⟨l, t', g⟩, hr', e⟩ := e
            split at e
            · rename_i hfit
              rw [forceVs_eq] at e
              obtain ⟨q, hq, _, hv⟩ := den_sg hd
              simp only [Value.slice.injEq] at hv
              exact fin id off q l t' g hq hv.1 hr' hfit e
            · cases e
          · cases e
    · cases e
  · cases e
end
end Go.Proofs.YtkdmpdbbcgdfkaaGreatDoor.Sx
