/-
  Maps by texts.
  Tags: package sha's tagged and the document's Tag.
  What texts of tf/ hold that readers and writers of bytes need.
  What readers of bytes compute, in plain Lean: a state is a place, or nothing any more.
  One more byte of a short number, as the program lays it in.
-/
import Derived.Test.YtkdmpdbbcgdfkaaGreatDoorJ4
import Derived.Test.YtkdmpdbbcgdfkaaGreatDoorJ7
import Derived.MapKept
import Derived.Laws.CopyRow
import Derived.Laws.IdiomCopy
import Derived.Laws.Small
namespace Go.Proofs.YtkdmpdbbcgdfkaaGreatDoor.Vm
open Go
set_option linter.unusedSimpArgs false
abbrev MapL := List (List UInt8 × Value)
def mkey (e : MapEntry) : Value × Value := (e.key, e.val)
def mval (p : List UInt8 × Value) : Value × Value := (.string (bs p.1), p.2)
/-- the map of texts at r -/
def MapS (h : Heap) (r : Nat) (m : MapL) : Prop := ∃ (es : Array MapEntry) (c : Nat), h[r]? = some (.map es c) ∧ es.toList.map mkey = m.map mval
def mfind (s : List UInt8) : MapL → Nat → Option (Nat × Value)
  | [], _ => none
  | p :: m, i => if p.1 = s then some (i, p.2) else mfind s m (i + 1)
def mget (m : MapL) (s : List UInt8) : Option Value := (mfind s m 0).map (·.2)
def mput (s : List UInt8) (v : Value) : MapL → MapL
  | [] => [(s, v)]
  | p :: m => if p.1 = s then (s, v) :: m else p :: mput s v m
theorem bs_inj {a b : List UInt8} (h : bs a = bs b) : a = b := by
  have := congrArg ByteArray.toList h
  rwa [bs_toList, bs_toList] at this
theorem bs_eq (a b : List UInt8) : (bs a == bs b) = decide (a = b) := by
  by_cases h : a = b
  · subst h
    rw [decide_eq_true rfl]
    exact (MapKept.bytes_beq _ _).2 rfl
  · rw [decide_eq_false h, Bool.eq_false_iff]
    exact fun e => h (bs_inj ((MapKept.bytes_beq _ _).1 e))
theorem mfind_ge (s : List UInt8) : ∀ (m : MapL) (i j : Nat) (v : Value), mfind s m i = some (j, v) → i ≤ j
  | [], _, _, _, h => by simp [mfind] at h
  | p :: m, i, j, v, h => by
    unfold mfind at h
    split at h
    · cases h; omega
    · have := mfind_ge s m _ _ _ h; omega
theorem mfind_shift (s : List UInt8) : ∀ (m : MapL) (i k : Nat), mfind s m (i + k) = (mfind s m i).map (fun p => (p.1 + k, p.2))
  | [], _, _ => rfl
  | p :: m, i, k => by
    unfold mfind
    split
    · rfl
    · rw [show i + k + 1 = i + 1 + k by omega]; exact mfind_shift s m (i + 1) k
theorem mget_cons (p : List UInt8 × Value) (m : MapL) (s : List UInt8) : mget (p :: m) s = if p.1 = s then some p.2 else mget m s := by
  show Option.map (fun x => x.2) (if p.1 = s then some (0, p.2) else mfind s m (0 + 1)) = _
  split
  · rfl
  · rw [mfind_shift s m 0 1]
    unfold mget
    cases mfind s m 0 <;> rfl
theorem mget_put (m : MapL) (s t : List UInt8) (v : Value) : mget (mput s v m) t = if s = t then some v else mget m t := by
  induction m with
  | nil => show mget [(s, v)] t = _; rw [mget_cons]
  | cons p m ih =>
    unfold mput
    split
    · rename_i e
      rw [mget_cons, mget_cons, e]
      split <;> rfl
    · rename_i e
      rw [mget_cons, mget_cons, ih]
      split
      · rename_i e1
        rw [if_neg (fun e2 => e (e1.trans e2.symm))]
      · rfl
theorem findNow_m (s : List UInt8) : ∀ (l : List MapEntry) (m : MapL) (i : Nat), l.map mkey = m.map mval → Instr.findNow .string (.string (bs s)) l i = some (mfind s m i)
  | [], [], _, _ => rfl
  | [], _ :: _, _, h => by simp at h
  | _ :: _, [], _, h => by simp at h
  | e :: l, p :: m, i, h => by
    simp only [List.map_cons, List.cons.injEq, mkey, mval, Prod.mk.injEq] at h
    obtain ⟨⟨hk, hv⟩, ht⟩ := h
    have ih := findNow_m s l m (i + 1) ht
    unfold Instr.findNow mfind
    rw [hk]
    simp only [Instr.sameNow, bs_eq]
    by_cases hc : s = p.1
    · rw [decide_eq_true hc, if_pos hc.symm, hv]
    · rw [decide_eq_false hc, if_neg (fun e => hc e.symm)]
      exact ih
theorem mput_none (s : List UInt8) (v : Value) : ∀ (m : MapL) (i : Nat), mfind s m i = none → mput s v m = m ++ [(s, v)]
  | [], _, _ => rfl
  | p :: m, i, h => by
    unfold mfind at h
    split at h
    · cases h
    · rename_i e
      unfold mput
      rw [if_neg e, mput_none s v m _ h]
      rfl
theorem mput_some (s : List UInt8) (v u : Value) : ∀ (l : List MapEntry) (m : MapL) (j : Nat), l.map mkey = m.map mval → mfind s m 0 = some (j, u) →
    (l.modify j fun e => { e with key := .string (bs s), val := v }).map mkey = (mput s v m).map mval
  | [], [], _, _, h => by simp [mfind] at h
  | [], _ :: _, _, h, _ => by simp at h
  | _ :: _, [], _, h, _ => by simp at h
  | e :: l, p :: m, j, h, hf => by
    have h0 := h
    simp only [List.map_cons, List.cons.injEq] at h
    unfold mfind at hf
    unfold mput
    split at hf
    · rename_i e1
      cases hf
      rw [if_pos e1]
      simp only [List.modify_zero_cons, List.map_cons, h.2]
      rfl
    · rename_i e1
      rw [if_neg e1]
      have := mfind_shift s m 0 1
      rw [this] at hf
      cases hc : mfind s m 0 with
      | none => rw [hc] at hf; simp at hf
      | some q =>
        rw [hc] at hf
        simp only [Option.map_some, Option.some.injEq, Prod.mk.injEq] at hf
        obtain ⟨rfl, rfl⟩ := hf
        simp only [List.modify_succ_cons, List.map_cons, h.1]
        rw [mput_some s v q.2 l m q.1 h.2 (by rw [hc])]
section
variable {P : Program} {t kt et : TypeId} {inf : TypeInfo} {z : Value} (ht : P.underlying t = some (.map kt et)) (hk : P.underlying kt = some .string)
include ht hk
theorem lookup_s (hi : P.info? et = some inf) (hz : inf.zero = some z) {h : Heap} {r : Nat} {m : MapL} (M : MapS h r m) (s : List UInt8) (ok : Bool) (w : World) (hw : ExtH h w.heap) :
    (Instr.lookup t (.map (some r)) (.string (bs s)) ok).run P w = .ok (if ok then .tuple #[(mget m s).getD z, .bool (mget m s).isSome] else (mget m s).getD z) w := by
  obtain ⟨es, c, hb, he⟩ := M
  have hb' : w.heap[r]? = some (.map es c) := by rw [hw.block r (Array.getElem?_eq_some_iff.1 hb).1]; exact hb
  have hf := findNow_m s es.toList m 0 he
  have hc := MapKept.run_checkKey (P := P) (w := w) (k := .string (bs s)) hk (by simp [MapKept.IsKey]) es.isEmpty 9999
  have hfk := MapKept.run_findKey (P := P) (w := w) hk hf
  unfold mget
  cases hm : mfind s m 0 with
  | none =>
    rw [hm] at hfk
    simp [Instr.lookup, run_underlying ht, MapKept.run_getObj_map hb', hc, hfk, Result.andThen, zeroValue, typeInfo, hi, hz]
  | some q =>
    rw [hm] at hfk
    simp [Instr.lookup, run_underlying ht, MapKept.run_getObj_map hb', hc, hfk, Result.andThen]
theorem update_s {h : Heap} {r : Nat} {m : MapL} (M : MapS h r m) (s : List UInt8) (v : Value) :
    RunsU P (Instr.mapUpdate t (.map (some r)) (.string (bs s)) v) h fun h' => MapS h' r (mput s v m) ∧ Chg (fun b => b = r) h h' := by
  intro w hw
  subst hw
  obtain ⟨es, c, hb, he⟩ := M
  have hf := findNow_m s es.toList m 0 he
  have hc := MapKept.run_checkKey (P := P) (w := w) (k := .string (bs s)) hk (by simp [MapKept.IsKey]) false 9999
  have hfk := MapKept.run_findKey (P := P) (w := w) hk hf
  have set_ : ∀ es' c', Chg (fun b => b = r) w.heap (w.heap.setIfInBounds r (.map es' c')) := fun es' c' => ⟨by simp, fun b hb hne => by simp [Ne.symm hne]⟩
  cases hm : mfind s m 0 with
  | none =>
    rw [hm] at hfk
    refine ⟨{ w with heap := w.heap.setIfInBounds r (.map (es.push { key := .string (bs s), val := v, born := c }) (c + 1)) }, ?_, ⟨rfl, rfl, rfl⟩, ⟨_, _, (MapKept.heap_set hb).1, ?_⟩, set_ _ _⟩
    · simp [Instr.mapUpdate, run_underlying ht, MapKept.run_getObj_map hb, hc, hfk, MapKept.run_setObj_map _ hb, Result.andThen]
    · rw [mput_none s v m 0 hm]
      simp [he, mkey, mval]
  | some q =>
    rw [hm] at hfk
    have hks : (Instr.keyThatStays (((es[q.1]?).map (·.key)).getD (.string (bs s))) (.string (bs s))).run P w = .ok (.string (bs s)) w := by
      have : ((es[q.1]?).map (·.key)).getD (.string (bs s)) = .string (bs s) := by
        rcases MapKept.findNow_spec (d := .string) (k := .string (bs s)) (by simp [MapKept.IsKey]) es.toList 0 (fun x hx => by
          have : mkey x ∈ m.map mval := he ▸ List.mem_map_of_mem hx
          obtain ⟨p, _, hp⟩ := List.mem_map.1 this
          simp only [mkey, mval, Prod.mk.injEq] at hp
          rw [← hp.1]; simp [MapKept.IsKey]) with ⟨h1, _⟩ | ⟨j, e, h1, h2, h3⟩
        · rw [hf, hm] at h1; simp at h1
        · rw [hf, hm] at h1
          simp only [Option.some.injEq] at h1
          have h1' : q.1 = 0 + j := congrArg Prod.fst h1
          rw [h1', Nat.zero_add, ← Array.getElem?_toList, h2]
          exact h3
      rw [this]
      exact MapKept.run_keyThatStays (d := .string) (by simp [MapKept.IsKey])
    refine ⟨{ w with heap := w.heap.setIfInBounds r (.map (es.modify q.1 fun e => { e with key := .string (bs s), val := v }) c) }, ?_, ⟨rfl, rfl, rfl⟩, ⟨_, _, (MapKept.heap_set hb).1, ?_⟩, set_ _ _⟩
    · simp [Instr.mapUpdate, run_underlying ht, MapKept.run_getObj_map hb, hc, hfk, hks, MapKept.run_setObj_map _ hb, Result.andThen]
    · rw [Array.toList_modify]
      exact mput_some s v q.2 es.toList m q.1 he hm
end
theorem MapS.keep {S : Nat → Prop} {h h' : Heap} {r : Nat} {m : MapL} (M : MapS h r m) (c : Chg S h h') (hr : ¬ S r) : MapS h' r m := by
  obtain ⟨es, k, hb, he⟩ := M
  exact ⟨es, k, by rw [c.block r (Array.getElem?_eq_some_iff.1 hb).1 hr]; exact hb, he⟩
theorem MapS.more {h h' : Heap} {r : Nat} {m : MapL} (M : MapS h r m) (e : ExtH h h') : MapS h' r m := M.keep (S := fun _ => False) e.chg (fun e => e)
theorem MapS.lt {h : Heap} {r : Nat} {m : MapL} (M : MapS h r m) : r < h.size := by
  obtain ⟨es, k, hb, _⟩ := M
  exact (Array.getElem?_eq_some_iff.1 hb).1
/-- a map's block is no row's -/
theorem MapS.ne {h : Heap} {r : Nat} {m : MapL} (M : MapS h r m) {b : Nat} {l : List Value} {t : TypeId} (hb : Blk h b l t) : b ≠ r := by
  rintro rfl
  obtain ⟨es, k, h1, _⟩ := M
  unfold Blk at hb
  rw [hb] at h1
  injection h1 with h1
  cases h1
theorem MapS.new {h h' : Heap} (n : Newed h h' (.map #[] 0)) : MapS h' h.size [] := ⟨#[], 0, n.new, rfl⟩
end Go.Proofs.YtkdmpdbbcgdfkaaGreatDoor.Vm
namespace Go.Proofs.YtkdmpdbbcgdfkaaGreatDoor.Sha
def okc (c : UInt8) : Bool := c.toNat == 46 || (decide (97 ≤ c.toNat) && decide (c.toNat ≤ 122))
def isTag (s : List UInt8) : Bool := s.all okc && (decide (1 ≤ s.length) && decide (s.length ≤ 32))
theorem isTag_no {s : List UInt8} {i : Nat} (hi : i < s.length) (h : okc (s.getD i 0) = false) : isTag s = false := by
  have : s.all okc = false := by
    rw [List.all_eq_false]
    refine ⟨s.getD i 0, ?_, by rw [h]; exact Bool.false_ne_true⟩
    rw [List.getD_eq_getElem?_getD, List.getElem?_eq_getElem hi]
    exact List.getElem_mem hi
  unfold isTag
  rw [this]
  rfl
theorem isTag_yes {s : List UInt8} (h : ∀ i, i < s.length → okc (s.getD i 0) = true) : isTag s = (decide (1 ≤ s.length) && decide (s.length ≤ 32)) := by
  have : s.all okc = true := by
    rw [List.all_eq_true]
    intro x hx
    obtain ⟨i, hi, rfl⟩ := List.getElem_of_mem hx
    have := h i hi
    rwa [List.getD_eq_getElem?_getD, List.getElem?_eq_getElem hi] at this
  unfold isTag
  rw [this, Bool.true_and]
end Go.Proofs.YtkdmpdbbcgdfkaaGreatDoor.Sha
namespace Go.Proofs.YtkdmpdbbcgdfkaaGreatDoor
open Go Vm
set_option maxRecDepth 100000
theorem u8_ne_nat (c : UInt8) (n : Nat) : ((c.toNat : Int) != (n : Int)) = !decide (c.toNat = n) := by
  by_cases h : c.toNat = n
  · rw [h]; simp
  · have : (c.toNat : Int) ≠ (n : Int) := by omega
    simp [h, this]
theorem tagged_fn (s : List UInt8) (hs : s.length ≤ maxLen) : FxP Tryz.prog 291 #[.string (bs s)] (.bool (Sha.isTag s)) := by
  intro h
  refine fn_of 34 Tryz.func291 rfl (by kernel_rfl) rfl (by simp) ?_
  have hmax : maxLen < 9223372036854775808 := by decide
  refine cw_seq (cw_region rfl ?_)
  refine cw_seq (cw_seq (cw_region rfl ?_))
  conv => whnf
  refine cw_block ?_
  refine cw_loop (S := Nat) (fun t => [(0, .string (bs s)), (5, .int .i64 (s.length : Int)), (6, .int .i64 (t : Int))])
    (fun t h' => t ≤ s.length ∧ (∀ i, i < t → Sha.okc (s.getD i 0) = true) ∧ h' = h) (fun t => s.length - t) 0 ⟨rfl, rfl, rfl, trivial⟩ ⟨by omega, fun i hi => by omega, rfl⟩ ?_
  rintro t h0 ⟨ht, hok, e⟩
  subst h0
  refine cw_seq (cw_region rfl ?_)
  by_cases hlt : t < s.length
  · refine cw_seq (cw_yes rfl (by omega) (cw_skip ?_))
    refine cw_seq (cw_block (cw_seq (cw_region rfl ?_)))
    conv => whnf
    have hc := u8_lt (s.getD t 0)
    have hg : (bs s)[((t : Int)).toNat]? = some (s.getD t 0) := by
      rw [show ((t : Int)).toNat = t by omega]
      exact bs_get s t hlt
    generalize hcc : s.getD t 0 = c at *
    have next : Sha.okc c = true → ∀ i, i < t + 1 → Sha.okc (s.getD i 0) = true := fun h1 i hi => by
      by_cases hi' : i < t
      · exact hok i hi'
      · have : i = t := by omega
        rw [this, hcc]; exact h1
    refine cw_seq (cw_region rfl ?_)
    conv => whnf
    refine ⟨c, ⟨by omega, hg⟩, ?_⟩
    by_cases h46 : c.toNat = 46
    · refine ops_q (v := .bool false) rfl rfl (fun k hk => ?_) ?_
      · show k (.bool ((c.toNat : Int) != ((46 : Nat) : Int)))
        rw [u8_ne_nat, decide_eq_true h46]; exact hk
      conv => whnf
      refine cw_false rfl (cw_skip ?_)
      refine cw_region rfl ?_
      exact ⟨t + 1, ⟨rfl, rfl, slot_i64 _ _ (by omega) (by omega), trivial⟩, ⟨by omega, next (by simp [Sha.okc, h46]), rfl⟩, by omega⟩
    · refine ops_q (v := .bool true) rfl rfl (fun k hk => ?_) ?_
      · show k (.bool ((c.toNat : Int) != ((46 : Nat) : Int)))
        rw [u8_ne_nat, decide_eq_false h46]; exact hk
      conv => whnf
      refine ⟨c, ⟨by omega, hg⟩, ?_⟩
      by_cases h97 : c.toNat < 97
      · refine ops_g (v := .bool true) (b := true) rfl rfl rfl rfl (fun k hk => say true (decide_eq_true (by omega)) hk) ?_
        conv => whnf
        refine cw_true rfl (cw_seq (cw_region rfl ?_))
        have e : Sha.isTag s = false := Sha.isTag_no hlt (by rw [hcc]; simp [Sha.okc, h46]; omega)
        rw [e]
        exact cw_ret ⟨rfl, rfl⟩
      · refine ops_g (v := .bool false) (b := true) rfl rfl rfl rfl (fun k hk => say false (decide_eq_false (by omega)) hk) ?_
        conv => whnf
        refine ⟨c, ⟨by omega, hg⟩, ?_⟩
        conv => whnf
        by_cases h122 : 122 < c.toNat
        · refine cw_yes rfl (by omega) (cw_seq (cw_region rfl ?_))
          have e : Sha.isTag s = false := Sha.isTag_no hlt (by rw [hcc]; simp [Sha.okc, h46]; omega)
          rw [e]
          exact cw_ret ⟨rfl, rfl⟩
        · refine cw_no rfl (by omega) (cw_skip ?_)
          refine cw_region rfl ?_
          exact ⟨t + 1, ⟨rfl, rfl, slot_i64 _ _ (by omega) (by omega), trivial⟩, ⟨by omega, next (by simp [Sha.okc]; omega), rfl⟩, by omega⟩
  · refine cw_seq (cw_no rfl (by omega) (cw_exit ?_))
    have e := Sha.isTag_yes (s := s) (fun i hi => hok i (by omega))
    rw [e]
    refine cw_seq (cw_region rfl ?_)
    refine ops_q rfl rfl (fun k hk => hk) ?_
    refine ops_q rfl rfl (fun k hk => hk) ?_
    by_cases h1 : 1 ≤ s.length
    · refine ops_q (v := .bool true) rfl rfl (fun k hk => say true (decide_eq_true (by show (1 : Int) ≤ (s.length : Int); omega)) hk) ?_
      conv => whnf
      refine cw_ret ⟨?_, rfl⟩
      rw [decide_eq_true h1, Bool.true_and]
      show Value.bool (decide ((s.length : Int) ≤ 32)) = _
      congr 1
      simp only [decide_eq_decide]
      omega
    · refine ops_q (v := .bool false) rfl rfl (fun k hk => say false (decide_eq_false (by show ¬ (1 : Int) ≤ (s.length : Int); omega)) hk) ?_
      conv => whnf
      refine cw_ret ⟨?_, rfl⟩
      rw [decide_eq_false h1, Bool.false_and]
      rfl
end Go.Proofs.YtkdmpdbbcgdfkaaGreatDoor
namespace Go.Proofs.YtkdmpdbbcgdfkaaGreatDoor
open Go Vm
set_option maxRecDepth 100000
set_option linter.unusedVariables false
set_option linter.unusedSimpArgs false
theorem Vm.Fx.of_calls {P : Program} {f : FuncId} {args : Array Value} {h : Heap} {R : Value → Heap → Prop} (hp : plain P f = true)
    (H : ∀ w, w.heap = h → Calls P f args w (fun e w' => ∃ v, e = .returned v ∧ SameEnv w w' ∧ R v w'.heap)) : Fx P f args h R := .inl ⟨hp, H⟩
theorem ext_below {w w' : World} (b : RowKit.Below w.heap.size w w') : SameEnv w w' ∧ ExtH w.heap w'.heap := ⟨⟨b.os, b.tape, b.output⟩, b.size, b.block⟩
theorem rd_more {h h' : Heap} (e : ExtH h h') {a : Addr} {v : Value} (r : rd h a = some v) : rd h' a = some v := (e.chg (S := fun _ => False)).rd r (fun e => e)
theorem bs_data (s : List UInt8) : (bs s).data.toList = s := by simp [bs]
theorem getD_drop (s : List UInt8) (i : Nat) (h : i < s.length) : s.drop i = s.getD i 0 :: s.drop (i + 1) := by
  rw [List.drop_eq_getElem_cons h, List.getD_eq_getElem?_getD, List.getElem?_eq_getElem h]; rfl
theorem u8_int (c : UInt8) : (c.toNat : Int) < 256 := by have := c.toNat_lt; omega
def strv (s : List UInt8) : Value := .string (bs s)
/-- texts that are read -/
def RT (h : Heap) (v : Value) (l : List (List UInt8)) : Prop := Vm.Src h 1 v l.length (l.map strv)
theorem RT.more {h h' : Heap} {v : Value} {l : List (List UInt8)} (r : RT h v l) (e : ExtH h h') : RT h' v l := Vm.Src.more r e
theorem RT.fix {h : Heap} {v : Value} {l : List (List UInt8)} (r : RT h v l) : ∃ a c, v = .slice a l.length c ∧ l.length ≤ maxLen := by
  obtain ⟨a, c, e, h1, h2⟩ := Vm.Src.form r
  exact ⟨a, c, e, by omega⟩
theorem RT.get {h : Heap} {a : Option Addr} {n c : Nat} {l : List (List UInt8)} (r : RT h (.slice a n c) l) (t : Nat) (hlt : t < l.length) : ∃ b o, a = some ⟨b, o, none⟩ ∧ rd h ⟨b, o + t, none⟩ = some (strv (l.getD t [])) := by
  rcases r.2 with ⟨h1, h2⟩ | ⟨A, cap, h1, hc, hm, hr⟩
  · omega
  · injection h1 with h1
    have hne : l.map strv ≠ [] := by intro e; simp at e; subst e; simp at hlt
    have hs := hr.spot hne
    rw [hs, rdA_plain] at hr
    refine ⟨A.block, A.off, by rw [← hs]; exact h1, hr t _ ?_⟩
    rw [List.getElem?_map, List.getElem?_eq_getElem hlt, List.getD_eq_getElem?_getD, List.getElem?_eq_getElem hlt]
    rfl
theorem drop_getD {α : Type} (l : List α) (t : Nat) (d : α) (h : t < l.length) : l.drop t = l.getD t d :: l.drop (t + 1) := by
  rw [List.drop_eq_getElem_cons h, List.getD_eq_getElem?_getD, List.getElem?_eq_getElem h]; rfl
theorem info_parts {o : Option TypeInfo} {a : Option Value} {b c : Nat} (h : o.map (fun i => (i.zero, i.size, i.bytes)) = some (a, b, c)) : ∃ i, o = some i ∧ i.zero = a ∧ i.size = b ∧ i.bytes = c := by
  cases o with
  | none => simp at h
  | some i =>
    simp only [Option.map_some, Option.some.injEq, Prod.mk.injEq] at h
    exact ⟨i, rfl, h⟩
theorem u8_ofNat {n : Nat} (h : n < 256) : (UInt8.ofNat n).toNat = n := by rw [UInt8.toNat_ofNat']; omega
def uvar (n : Nat) : List UInt8 := if h : n < 128 then [UInt8.ofNat n] else UInt8.ofNat (n % 128 + 128) :: uvar (n / 128)
termination_by n
decreasing_by omega
theorem uvar_small {n : Nat} (h : n < 128) : uvar n = [UInt8.ofNat n] := by rw [uvar, dif_pos h]
theorem uvar_big {n : Nat} (h : ¬ n < 128) : uvar n = UInt8.ofNat (n % 128 + 128) :: uvar (n / 128) := by rw [uvar, dif_neg h]
theorem uvar_pos (n : Nat) : 1 ≤ (uvar n).length := by
  by_cases h : n < 128
  · rw [uvar_small h]; exact Nat.le_refl _
  · rw [uvar_big h]; simp
theorem uvar_len : ∀ (k n : Nat), n < 128 ^ (k + 1) → (uvar n).length ≤ k + 1
  | 0, n, h => by rw [uvar_small (by simpa using h)]; exact Nat.le_refl _
  | k + 1, n, h => by
    by_cases h1 : n < 128
    · rw [uvar_small h1]; simp
    · rw [uvar_big h1]
      have := uvar_len k (n / 128) (by rw [Nat.pow_succ] at h; omega)
      simp only [List.length_cons]
      omega
theorem uvar_10 {n : Nat} (h : n < 18446744073709551616) : (uvar n).length ≤ 10 := uvar_len 9 n (Nat.lt_of_lt_of_le h (by decide))
theorem or8 (x y : UInt8) : bits .or .u8 (x.toNat : Int) (y.toNat : Int) = ((x ||| y).toNat : Int) := by
  rw [u8_or_nat _ _ (u8_lt x) (u8_lt y), UInt8.toNat_or]
theorem or128 : ∀ b : Fin 256, (UInt8.ofNat b.val ||| 128) = UInt8.ofNat (b.val % 128 + 128) := by decide
theorem low_byte (n : Nat) : bits .or .u8 (((UInt8.ofNat n).toNat : Int)) 128 = (((UInt8.ofNat (n % 128 + 128)).toNat : Nat) : Int) := by
  have h := or128 ⟨n % 256, by omega⟩
  simp only at h
  have e : UInt8.ofNat n = UInt8.ofNat (n % 256) := by
    apply UInt8.toNat.inj
    simp
  have h2 := or8 (UInt8.ofNat n) 128
  rw [e, h, show n % 256 % 128 = n % 128 by omega] at h2
  rw [e]
  exact h2
theorem copy_bytes {h : Heap} {v x : Value} {l m : List UInt8} {ty : TypeId} (o : OB h v l) (r : RB h x m) (hm : m.length ≤ l.length) :
    RunsV Tryz.prog (Builtin.copy_ #[46, 46] ty #[v, x]) h fun u h' => u = .int .i64 (m.length : Int) ∧ OB h' v (m ++ l.drop m.length) ∧ Chg (ob v) h h' := by
  intro w hw
  subst hw
  have hi : (Tryz.prog.info? 5).map (·.size) = some 1 := by kernel_rfl
  have none_ : m = [] → ∀ d a dl dc sl sc, v = .slice d dl dc → x = .slice a sl sc → Nat.min sl dl = 0 → ∃ u w', (Builtin.copy_ #[46, 46] ty #[v, x]).run Tryz.prog w = .ok u w' ∧ SameEnv w w' ∧ (u = .int .i64 (m.length : Int) ∧ OB w'.heap v (m ++ l.drop m.length) ∧ Chg (ob v) w.heap w'.heap) := by
    rintro rfl d a dl dc sl sc rfl rfl h0
    exact ⟨_, w, run_copy_none (P := Tryz.prog) w _ 46 ty 5 d a dl dc sl sc Tryz.underlying46 hi h0, SameEnv.refl w, rfl, by simpa using o, ⟨Nat.le_refl _, fun _ _ _ => rfl⟩⟩
  obtain ⟨xa, xc, hxe, _⟩ := Vm.Src.form r
  rcases OB.cases o with ⟨hv, hl⟩ | ⟨b, cap, tl, hv, hc, hcm, hb, hlen⟩
  · have hm0 : m = [] := List.eq_nil_of_length_eq_zero (by rw [hl] at hm; simpa using hm)
    exact none_ hm0 none xa 0 0 m.length xc hv hxe (Nat.min_zero _)
  · rcases r.cases with ⟨hx, hm0⟩ | ⟨A, cx, hx, hcx, _, hr⟩
    · exact none_ hm0 _ _ _ _ 0 0 hv hx (Nat.zero_min _)
    · subst hv hx
      have hrun := run_copy_row (P := Tryz.prog) w 46 46 ty 5 b 0 l.length cap A m.length cx (l.map u8v ++ tl).toArray 5 (m.map u8v) Tryz.underlying46 hi hb
        (by rw [List.length_map]; exact (Nat.min_eq_left hm).symm) (fun j u hu => by rw [cell_eq_rd]; exact hr j u hu) (by simp; omega) (one8 m)
      have hw := heap_setRow w b (((l.map u8v ++ tl).toArray.toList.take 0 ++ m.map u8v ++ (l.map u8v ++ tl).toArray.toList.drop (0 + (m.map u8v).length)).toArray) (l.map u8v ++ tl).toArray 5 hb
      have ecells : (l.map u8v ++ tl).toArray.toList.take 0 ++ m.map u8v ++ (l.map u8v ++ tl).toArray.toList.drop (0 + (m.map u8v).length) = (m ++ l.drop m.length).map u8v ++ tl := by
        simp only [List.take_zero, List.nil_append, Nat.zero_add, List.length_map]
        rw [List.drop_append_of_le_length (by simpa using hm), List.map_append, List.map_drop, List.append_assoc]
      refine ⟨_, _, hrun, ⟨rfl, rfl, rfl⟩, by rw [List.length_map]; rfl, ?_, ?_⟩
      · have hn := hw.new
        have hl2 : (m ++ l.drop m.length).length = l.length := by simp; omega
        refine ⟨by simp, .inr ⟨b, cap, tl, by rw [hl2], ?_, by omega, hcm, ?_⟩⟩
        · simp only [ecells] at hn ⊢
          exact hn
        · rw [List.length_append, List.length_map, hl2]; omega
      · exact hw.chg.mono (fun k _ hk => by rw [ob_slice]; exact hk)
theorem info8z : ∃ i, Tryz.prog.info? 5 = some i ∧ i.zero = some (.int .u8 0) ∧ i.size = 1 ∧ i.bytes = 1 := info_parts info8
theorem zeros8 (n : Nat) : (madeCells (Value.int .u8 0).cells n).toList = (List.replicate n (0 : UInt8)).map u8v := by
  simp [madeCells, Value.cells, u8v, Nat.mod_one, List.map_const']
theorem fresh_fn {h : Heap} {v : Value} {l : List UInt8} (r : RB h v l) (room : Nat) (hl : l.length ≤ 1000000000) (hr : room ≤ 1000) :
    Fx Tryz.prog 46 #[v, .int .i64 (room : Int)] h fun u h' => OB h' u l ∧ ExtH h h' ∧ ∀ b, ob u b → h.size ≤ b := by
  refine fn_of 17 Tryz.func46 rfl (by kernel_rfl) rfl (by simp) ?_
  obtain ⟨va, vc, hve, _⟩ := Vm.Src.form r
  subst hve
  refine cw_seq (cw_go rfl ?_)
  conv => whnf
  refine cw_seq (cw_go rfl ?_)
  repeat ((conv => whnf); first | refine ⟨_, Blk.rd ‹Blk _ _ _ _› rfl, ?_⟩ | refine ⟨_, rd_up ‹ExtH _ _› (Blk.rd ‹Blk _ _ _ _› rfl), ?_⟩ | refine And.intro ⟨by omega, by omega⟩ ?_ | refine say_i (by omega) ?_ | refine say_u8 (by omega) ?_ | refine say_u64 (by omega) ?_ | refine say_len ?_ | refine say_at ⟨by omega, by omega⟩ ?_ | refine say_to (by omega) (by omega) ?_ | refine say_from (by omega) (by omega) ?_ | refine say_t (by omega) ?_ | refine say_f (by omega) ?_)
  try (conv => whnf)
  refine ⟨⟨by omega, by omega, ?_, by omega⟩, ?_⟩
  · show ((1 : Nat) : Int) * _ ≤ _; omega
  intro h1 n1
  replace n1 : Newed h h1 (.cells (madeCells (Value.int .u8 0).cells (l.length + room)) 5) := by
    have e : ((l.length : Int) + (room : Int)).toNat * 1 = l.length + room := by omega
    have := n1
    rw [← e]
    exact this
  have o1 : OB h1 (.slice (some ⟨h.size, 0, none⟩) (List.replicate l.length (0 : UInt8)).length (l.length + room)) (List.replicate l.length 0) :=
    OB.of_new (tl := (List.replicate room (0 : UInt8)).map u8v) n1 (by rw [zeros8, ← List.map_append, List.replicate_append_replicate]) (by simp) (by unfold maxLen; omega)
  rw [List.length_replicate] at o1
  conv => whnf
  rw [show ((l.length : Int)).toNat = l.length by omega, show ((l.length : Int) + (room : Int)).toNat = l.length + room by omega]
  refine cw_seq (cw_go rfl ?_)
  conv => whnf
  refine ⟨_, rfl, _, copy_bytes (ty := 3) o1 (r.more n1.ext) (by simp), ?_⟩
  rintro _ h2 ⟨rfl, o2, c2⟩
  have z1 := n1.size
  conv => whnf
  refine cw_seq (cw_go rfl ?_)
  conv => whnf
  refine cw_ret ⟨?_, ⟨by have := c2.size; omega, fun b hb => by rw [c2.block b (by omega) (fun e => by rw [ob_slice] at e; omega), n1.block b hb]⟩, fun b hb => by
    have hb' : ob (.slice (some ⟨h.size, 0, none⟩) l.length (l.length + room)) b := hb
    rw [ob_slice] at hb'; omega⟩
  have e : l ++ (List.replicate l.length (0 : UInt8)).drop l.length = l := by simp
  rw [e] at o2
  exact o2
theorem short_fn {h : Heap} {v : Value} {l : List UInt8} {n : Nat} (o : OB h v l) (hl : l.length ≤ 1000000000) (hn : n < 18446744073709551616) :
    Fx Tryz.prog 45 #[v, .int .u64 (n : Int)] h fun u h' => OB h' u (l ++ uvar n) ∧ Chg (ob v) h h' ∧ ∀ b, ob u b → ob v b ∨ h.size ≤ b := by
  refine fn_of 20 Tryz.func45 rfl (by kernel_rfl) rfl (by simp) ?_
  have hu := uvar_10 hn
  generalize hgoal : l ++ uvar n = out
  have hol : out.length ≤ 1000000010 := by rw [← hgoal, List.length_append]; omega
  obtain ⟨va, vc, hve, _⟩ := Vm.Src.form (OB.r o)
  refine cw_seq (cw_go rfl ?_)
  conv => whnf
  refine cw_seq (cw_block ?_)
  refine cw_loop (S := Value × List UInt8 × Nat) (fun s => [(0, s.1), (1, .int .u64 (s.2.2 : Int))])
    (fun s h' => (∃ a c, s.1 = .slice a s.2.1.length c) ∧ OB h' s.1 s.2.1 ∧ s.2.1 ++ uvar s.2.2 = out ∧ s.2.2 < 18446744073709551616 ∧ Chg (ob v) h h' ∧ ∀ b, ob s.1 b → ob v b ∨ h.size ≤ b) (fun s => s.2.2) (v, l, n) ⟨rfl, rfl, trivial⟩
    ⟨⟨_, _, hve⟩, o, hgoal, hn, ⟨Nat.le_refl _, fun _ _ _ => rfl⟩, fun b hb => .inl hb⟩ ?_
  clear o hgoal
  rintro ⟨x, m, k⟩ h1 ⟨⟨xa, xc, hx⟩, o1, hg, hk, c1, f1⟩
  simp only at hx o1 hg hk f1
  subst hx
  have hml : m.length + (uvar k).length = out.length := by rw [← hg, List.length_append]
  refine cw_seq (cw_seq (cw_go rfl ?_))
  conv => whnf
  by_cases hk1 : k < 128
  · refine say_f (by show ¬ (k : Int) ≥ 128; omega) ?_
    refine cw_false rfl (cw_exit ?_)
    rw [uvar_small hk1] at hg
    refine cw_seq (cw_go rfl ?_)
    conv => whnf
    refine say_w (wrap8_nat k) ?_
    conv => whnf
    refine ⟨_, rfl, #[u8v (UInt8.ofNat k)], 5, fun w => by kernel_rfl, ?_⟩
    conv => whnf
    intro h2 n2
    conv => whnf
    have r2 : RB h2 (.slice (some ⟨h1.size, 0, none⟩) 1 1) [UInt8.ofNat k] := RB.of_newed n2 rfl rfl (by show 1 ≤ maxLen; decide)
    refine ⟨_, rfl, _, append_bytes (ty := 46) (OwnS.more o1 n2.ext) r2 (by simp; omega), ?_⟩
    rintro u h3 ⟨o3, c3, f3⟩
    rw [hg] at o3
    have z1 := c1.size
    have z2 := n2.size
    refine cw_ret ⟨o3, ?_, fun b hb => ?_⟩
    · exact ⟨by have := c3.size; omega, fun b hb hn => by rw [c3.block b (by omega) (fun e => (f1 b e).elim hn (by omega)), n2.block b (by omega), c1.block b hb hn]⟩
    · exact (f3 b hb).elim (fun e => f1 b e) (fun e => .inr (by omega))
  · refine say_t (by show (k : Int) ≥ 128; omega) ?_
    refine cw_true rfl (cw_skip ?_)
    rw [uvar_big hk1] at hg hml
    refine cw_seq (cw_block ?_)
    refine cw_go rfl ?_
    conv => whnf
    refine say_w (wrap8_nat k) ?_
    conv => whnf
    refine say_w (low_byte k) ?_
    conv => whnf
    refine ⟨_, rfl, #[u8v (UInt8.ofNat (k % 128 + 128))], 5, fun w => by kernel_rfl, ?_⟩
    conv => whnf
    intro h2 n2
    conv => whnf
    have r2 : RB h2 (.slice (some ⟨h1.size, 0, none⟩) 1 1) [UInt8.ofNat (k % 128 + 128)] := RB.of_newed n2 rfl rfl (by show 1 ≤ maxLen; decide)
    refine ⟨_, rfl, _, append_bytes (ty := 46) (OwnS.more o1 n2.ext) r2 (by simp; omega), ?_⟩
    rintro u h3 ⟨o3, c3, f3⟩
    have z1 := c1.size
    have z2 := n2.size
    obtain ⟨ua, uc, hue, _⟩ := Vm.Src.form (OB.r o3)
    refine cw_go rfl ?_
    conv => whnf
    refine And.intro (by omega) ?_
    refine say_w (y := ((k / 128 : Nat) : Int)) (by show (k : Int) / 2 ^ 7 = _; omega) ?_
    conv => whnf
    refine ⟨(u, m ++ [UInt8.ofNat (k % 128 + 128)], k / 128), ⟨rfl, rfl, trivial⟩, ⟨⟨_, _, hue⟩, o3, by rw [List.append_assoc]; exact hg, by show k / 128 < _; omega, ?_, fun b hb => ?_⟩, by show k / 128 < k; omega⟩
    · exact ⟨by have := c3.size; omega, fun b hb hn => by rw [c3.block b (by omega) (fun e => (f1 b e).elim hn (by omega)), n2.block b (by omega), c1.block b hb hn]⟩
    · exact (f3 b hb).elim (fun e => f1 b e) (fun e => .inr (by omega))
end Go.Proofs.YtkdmpdbbcgdfkaaGreatDoor
namespace Go.Proofs.YtkdmpdbbcgdfkaaGreatDoor
open Go Vm
set_option maxRecDepth 100000
set_option linter.unusedVariables false
set_option linter.unusedSimpArgs false
theorem putUint_fn {h : Heap} {v : Value} {l : List UInt8} {n : Nat} (r : RB h v l) (hl : l.length ≤ 1000000000) (hn : n < 18446744073709551616) :
    Fx Tryz.prog 15 #[v, .int .u64 (n : Int)] h fun u h' => OB h' u (l ++ uvar n) ∧ ExtH h h' ∧ ∀ b, ob u b → h.size ≤ b := by
  refine fn_of 9 Tryz.func15 rfl (by kernel_rfl) rfl (by simp) ?_
  refine cw_seq (cw_go rfl ?_)
  conv => whnf
  refine cw_seq (cw_go rfl ?_)
  conv => whnf
  refine ⟨_, rfl, _, fresh_fn r 10 hl (by decide), ?_⟩
  rintro x h1 ⟨o1, x1, f1⟩
  conv => whnf
  refine ⟨_, rfl, _, short_fn o1 hl hn, ?_⟩
  rintro u h2 ⟨o2, c2, f2⟩
  have z1 := x1.size
  refine cw_ret ⟨o2, ⟨by have := c2.size; omega, fun b hb => by rw [c2.block b (by omega) (fun e => by have := f1 b e; omega), x1.block b hb]⟩, fun b hb => (f2 b hb).elim (f1 b) (fun e => by omega)⟩
theorem ext_of_chg {h h1 h2 : Heap} {v : Value} (x : ExtH h h1) (c : Chg (ob v) h1 h2) (f : ∀ b, ob v b → h.size ≤ b) : ExtH h h2 := by
  have z := x.size
  exact ⟨by have := c.size; omega, fun b hb => by rw [c.block b (by omega) (fun e => by have := f b e; omega), x.block b hb]⟩
theorem rUint_fn (n : Nat) (h : Heap) (hn : n < 18446744073709551616) :
    Fx Tryz.prog 19 #[.int .u64 (n : Int)] h fun u h' => OB h' u (uvar n) ∧ ExtH h h' ∧ ∀ b, ob u b → h.size ≤ b := by
  refine fn_of 20 Tryz.func19 rfl (by kernel_rfl) rfl (by simp) ?_
  have hu := uvar_10 hn
  generalize hgoal : uvar n = out
  have hol : out.length ≤ 10 := by rw [← hgoal]; exact hu
  refine cw_seq (cw_go rfl ?_)
  conv => whnf
  refine cw_seq (cw_go rfl ?_)
  conv => whnf
  refine cw_seq (cw_block ?_)
  refine cw_loop (S := Value × List UInt8 × Nat) (fun s => [(3, s.1), (0, .int .u64 (s.2.2 : Int))])
    (fun s h' => (∃ a c, s.1 = .slice a s.2.1.length c) ∧ OB h' s.1 s.2.1 ∧ s.2.1 ++ uvar s.2.2 = out ∧ s.2.2 < 18446744073709551616 ∧ ExtH h h' ∧ ∀ b, ob s.1 b → h.size ≤ b) (fun s => s.2.2) (.slice none 0 0, [], n) ⟨rfl, rfl, trivial⟩
    ⟨⟨_, _, rfl⟩, OB.nil h, hgoal, hn, ExtH.refl h, fun b hb => (ob_nil hb).elim⟩ ?_
  clear hgoal
  rintro ⟨x, m, k⟩ h1 ⟨⟨xa, xc, hx⟩, o1, hg, hk, c1, f1⟩
  simp only at hx o1 hg hk f1
  subst hx
  have hml : m.length + (uvar k).length = out.length := by rw [← hg, List.length_append]
  refine cw_seq (cw_seq (cw_go rfl ?_))
  conv => whnf
  by_cases hk1 : k < 128
  · refine say_f (by show ¬ (k : Int) ≥ 128; omega) ?_
    refine cw_false rfl (cw_exit ?_)
    rw [uvar_small hk1] at hg
    refine cw_seq (cw_go rfl ?_)
    conv => whnf
    refine say_w (wrap8_nat k) ?_
    conv => whnf
    refine ⟨_, rfl, #[u8v (UInt8.ofNat k)], 5, fun w => by kernel_rfl, ?_⟩
    conv => whnf
    intro h2 n2
    conv => whnf
    have r2 : RB h2 (.slice (some ⟨h1.size, 0, none⟩) 1 1) [UInt8.ofNat k] := RB.of_newed n2 rfl rfl (by show 1 ≤ maxLen; decide)
    refine ⟨_, rfl, _, append_bytes (ty := 46) (OwnS.more o1 n2.ext) r2 (by simp; omega), ?_⟩
    rintro u h3 ⟨o3, c3, f3⟩
    rw [hg] at o3
    have z1 := c1.size
    have z2 := n2.size
    refine cw_ret ⟨o3, ext_of_chg (c1.trans n2.ext) c3 f1, fun b hb => (f3 b hb).elim (f1 b) (fun e => by omega)⟩
  · refine say_t (by show (k : Int) ≥ 128; omega) ?_
    refine cw_true rfl (cw_skip ?_)
    rw [uvar_big hk1] at hg hml
    refine cw_block ?_
    refine cw_seq (cw_go rfl ?_)
    conv => whnf
    refine And.intro (by decide) ?_
    refine say_w (y := ((k % 128 : Nat) : Int)) (by show (k : Int).tmod 128 = _; rw [Int.tmod_eq_emod_of_nonneg (by omega)]; omega) ?_
    conv => whnf
    refine say_w (wrap8_nat (k % 128)) ?_
    conv => whnf
    refine say_w (y := ((UInt8.ofNat (k % 128 + 128)).toNat : Int)) (by rw [IntKind.wrap_u8]; simp only [UInt8.toNat_ofNat']; omega) ?_
    conv => whnf
    refine ⟨_, rfl, #[u8v (UInt8.ofNat (k % 128 + 128))], 5, fun w => by kernel_rfl, ?_⟩
    conv => whnf
    intro h2 n2
    conv => whnf
    have r2 : RB h2 (.slice (some ⟨h1.size, 0, none⟩) 1 1) [UInt8.ofNat (k % 128 + 128)] := RB.of_newed n2 rfl rfl (by show 1 ≤ maxLen; decide)
    refine ⟨_, rfl, _, append_bytes (ty := 46) (OwnS.more o1 n2.ext) r2 (by simp; omega), ?_⟩
    rintro u h3 ⟨o3, c3, f3⟩
    have z1 := c1.size
    have z2 := n2.size
    obtain ⟨ua, uc, hue, _⟩ := Vm.Src.form (OB.r o3)
    refine cw_go rfl ?_
    conv => whnf
    refine And.intro (by decide) ?_
    refine say_w (y := ((k / 128 : Nat) : Int)) (by show IntKind.u64.wrap ((k : Int).tdiv 128) = _; rw [IntKind.wrap_u64, Int.tdiv_eq_ediv_of_nonneg (by omega)]; omega) ?_
    conv => whnf
    exact ⟨(u, m ++ [UInt8.ofNat (k % 128 + 128)], k / 128), ⟨rfl, rfl, trivial⟩, ⟨⟨_, _, hue⟩, o3, by rw [List.append_assoc]; exact hg, by show k / 128 < _; omega, ext_of_chg (c1.trans n2.ext) c3 f1, fun b hb => (f3 b hb).elim (f1 b) (fun e => by omega)⟩, by show k / 128 < k; omega⟩
end Go.Proofs.YtkdmpdbbcgdfkaaGreatDoor
namespace Go.Proofs.YtkdmpdbbcgdfkaaGreatDoor.Cd
open Go
/-- the short number with which bytes begin, how many bytes it has, and the error: k bytes were read, they come to a -/
def num : List UInt8 → Nat → Nat → Nat × Nat × Nat
  | [], _, _ => (0, 0, 4)
  | c :: r, k, a => if k = 9 ∧ c.toNat > 1 then (0, 0, 10) else
      if c.toNat < 128 then (if c.toNat = 0 ∧ k > 0 then (0, 0, 5) else (a + c.toNat * 2 ^ (7 * k), k + 1, 0))
      else num r (k + 1) (a + (c.toNat % 128) * 2 ^ (7 * k))
def numAt (l : List UInt8) (at_ : Nat) : Nat × Nat × Nat := num (l.drop at_) 0 0
abbrev St := Option Nat
/-- a number of at most so much -/
def count (l : List UInt8) (most : Nat) : St → Nat × St
  | none => (0, none)
  | some p => if (numAt l p).2.2 = 0 ∧ (numAt l p).1 ≤ most then ((numAt l p).1, some (p + (numAt l p).2.1)) else (0, none)
/-- a text of at most so many bytes -/
def text (l : List UInt8) (most : Nat) : St → List UInt8 × St
  | none => ([], none)
  | some p => if (numAt l p).2.2 = 0 ∧ (numAt l p).1 ≤ most ∧ (numAt l p).1 ≤ l.length - p - (numAt l p).2.1 then
      ((l.drop (p + (numAt l p).2.1)).take (numAt l p).1, some (p + (numAt l p).2.1 + (numAt l p).1)) else ([], none)
def raw (l : List UInt8) (n : Nat) : St → List UInt8 × St
  | none => ([], none)
  | some p => if n ≤ l.length - p then ((l.drop p).take n, some (p + n)) else ([], none)
def texts (l : List UInt8) (each : Nat) : Nat → St → List (List UInt8) × St
  | 0, s => ([], s)
  | n + 1, s => match text l each s with
    | (x, s') => match texts l each n s' with
      | (xs, s'') => (x :: xs, s'')
/-- texts: nothing, where one fails -/
def list (l : List UInt8) (most each : Nat) (s : St) : List (List UInt8) × St :=
  match count l most s with
  | (n, s') => match texts l each n s' with
    | (xs, some p) => (xs, some p)
    | (_, none) => ([], none)
/-! ### the number -/
theorem num_k : ∀ (l : List UInt8) (k a : Nat), (num l k a).2.2 = 0 → k + 1 ≤ (num l k a).2.1 ∧ (num l k a).2.1 ≤ k + l.length
  | [], k, a => by simp [num]
  | c :: r, k, a => by
    simp only [num]
    split
    · intro h; simp at h
    · split
      · split
        · intro h; simp at h
        · intro _; exact ⟨Nat.le_refl _, by simp only [List.length_cons]; omega⟩
      · intro h
        have := num_k r _ _ h
        simp only [List.length_cons]; omega
theorem num_le10 : ∀ (l : List UInt8) (k a : Nat), k ≤ 9 → (num l k a).2.2 = 0 → (num l k a).2.1 ≤ 10
  | [], k, a => by simp [num]
  | c :: r, k, a => by
    intro hk
    simp only [num]
    split
    · intro h; simp at h
    · rename_i h9
      split
      · split
        · intro h; simp at h
        · intro _; show k + 1 ≤ 10; omega
      · rename_i h128
        have hk8 : k ≠ 9 := fun e => h9 ⟨e, by omega⟩
        exact num_le10 r _ _ (by omega)
theorem num_lt : ∀ (l : List UInt8) (k a : Nat), k ≤ 9 → a < 2 ^ (7 * k) → (num l k a).1 < 2 ^ 64
  | [], k, a => by simp [num]
  | c :: r, k, a => by
    intro hk ha
    simp only [num]
    split
    · simp
    · rename_i h9
      have hc := c.toNat_lt
      by_cases hk9 : k = 9
      · subst hk9
        have : c.toNat ≤ 1 := by omega
        have h3 : c.toNat * 2 ^ (7 * 9) ≤ 1 * 2 ^ (7 * 9) := Nat.mul_le_mul_right _ this
        rw [if_pos (by omega)]
        split
        · simp
        · simp only [] at *
          have : (2 : Nat) ^ (7 * 9) + 2 ^ (7 * 9) = 2 ^ 64 := by decide
          omega
      · have hle : (2 : Nat) ^ (7 * (k + 1)) ≤ 2 ^ 64 := Nat.pow_le_pow_right (by decide) (by omega)
        have hs : (2 : Nat) ^ (7 * (k + 1)) = 128 * 2 ^ (7 * k) := by rw [show 7 * (k + 1) = 7 * k + 7 by omega, Nat.pow_add]; omega
        split
        · split
          · simp
          · rename_i h128 _
            have h3 : c.toNat * 2 ^ (7 * k) ≤ 127 * 2 ^ (7 * k) := Nat.mul_le_mul_right _ (by omega)
            simp only []
            omega
        · refine num_lt r _ _ (by omega) ?_
          have h3 : c.toNat % 128 * 2 ^ (7 * k) ≤ 127 * 2 ^ (7 * k) := Nat.mul_le_mul_right _ (by omega)
          omega
/-! ### an answer -/
structure Dg where
  path : List UInt8
  why : Int
  at_ : Int
structure Se where
  path : List UInt8
  what : Int
  kind : Int
  dig : List UInt8
structure An where
  code : Int
  diags : List Dg
  units : List (List UInt8)
  bytes : List UInt8
  reads : List Se
def most : Nat := 2147483647
def rdDiags (l : List UInt8) : Nat → St → List Dg × St
  | 0, s => ([], s)
  | n + 1, s => match text l 4096 s with
    | (p, s) => match count l most s with
      | (w, s) => match count l most s with
        | (a, s) => match rdDiags l n s with
          | (r, s) => (⟨p, w, a⟩ :: r, s)
def rdReads (l : List UInt8) : Nat → St → List Se × St
  | 0, s => ([], s)
  | n + 1, s => match text l 4096 s with
    | (p, s) => match count l 4 s with
      | (w, s) => match count l 3 s with
        | (k, s) => match raw l 32 s with
          | (d, s) => match rdReads l n s with
            | (r, s) => (⟨p, w, k, d⟩ :: r, s)
def long (l : List (List UInt8)) : Bool := l.any fun s => decide (4096 < s.length)
def mayD (d : Dg) : Bool := decide (d.path.length ≤ 4096) && decide (1 ≤ d.why) && decide (d.why ≤ most) && decide (0 ≤ d.at_) && decide (d.at_ ≤ most)
def mayR (s : Se) : Bool := decide (s.path.length ≤ 4096) && decide (0 ≤ s.what) && decide (s.what ≤ 4) && decide (0 ≤ s.kind) && decide (s.kind ≤ 3)
def may (a : An) : Bool :=
  decide (0 ≤ a.code) && decide (a.code ≤ most) && decide (a.diags.length ≤ 64) && decide (a.units.length ≤ 64) && decide (a.bytes.length ≤ 2097152) && decide (a.reads.length ≤ 65536) &&
  !long a.units && a.diags.all mayD && a.reads.all mayR
/-- the answer that bytes are -/
def readA (l : List UInt8) : Option An :=
  match raw l 3 (some 0) with
  | (t, s) => if t ≠ [116, 65, 49] then none else
    match count l most s with
    | (c, s) => match count l 64 s with
      | (n, s) => match rdDiags l n s with
        | (ds, s) => match list l 64 4096 s with
          | (us, s) => match text l 2097152 s with
            | (b, s) => match count l 65536 s with
              | (m, s) => match rdReads l m s with
                | (rs, s) => if s = some l.length ∧ may ⟨c, ds, us, b, rs⟩ = true then some ⟨c, ds, us, b, rs⟩ else none
end Go.Proofs.YtkdmpdbbcgdfkaaGreatDoor.Cd
namespace Go.Proofs.YtkdmpdbbcgdfkaaGreatDoor.Cd
open Go Vm
set_option maxRecDepth 100000
theorem low7 (c : UInt8) : bits .and .u8 (c.toNat : Int) 127 = ((c.toNat % 128 : Nat) : Int) := by
  have h : ∀ b : Fin 256, (UInt8.ofNat b.val &&& 127).toNat = b.val % 128 := by decide
  have h2 := u8_and_nat c.toNat 127 c.toNat_lt (by decide)
  have h3 := h ⟨c.toNat, c.toNat_lt⟩
  simp only [UInt8.toNat_and, UInt8.ofNat_toNat] at h3
  rw [show ((127 : Int)) = ((127 : Nat) : Int) from rfl, h2, ← h3]
  rfl
theorem shl64 (x k : Nat) (h : x * 2 ^ k < 2 ^ 64) (hk : k ≤ 64) : IntKind.u64.wrap ((x : Int) * 2 ^ min ((k : Int)).toNat 64) = ((x * 2 ^ k : Nat) : Int) := by
  rw [IntKind.wrap_u64, Int.toNat_natCast, Nat.min_eq_left hk]
  have e : ((x : Int) * 2 ^ k) = ((x * 2 ^ k : Nat) : Int) := by push_cast; rfl
  rw [e]
  omega
theorem or64 (a x k : Nat) (ha : a < 2 ^ k) (h : x * 2 ^ k < 2 ^ 64) (hk : k ≤ 63) : bits .or .u64 (a : Int) ((x * 2 ^ k : Nat) : Int) = ((a + x * 2 ^ k : Nat) : Int) := by
  have ha' : a < 2 ^ 64 := Nat.lt_of_lt_of_le ha (Nat.pow_le_pow_right (by decide) (by omega))
  rw [u64_or_nat _ _ ha' h]
  congr 1
  rw [Nat.or_comm, ← Nat.shiftLeft_eq, ← Nat.shiftLeft_add_eq_or_of_lt ha, Nat.add_comm]
end Go.Proofs.YtkdmpdbbcgdfkaaGreatDoor.Cd
