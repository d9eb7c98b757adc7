/-
  '==' of arrays of integers.
  The contract of the laws' awake.
  The contracts of the document's Alike, eight, Pad, and of the laws' num.
  Texts and bytes.
  Regions once more: a comparison, and an operation of integers, is told by a fact of our own, so that what slots hold stays short.
  One operation of a drawn region's head, with the value that we say; quiet calls.
  An operation whose guard is of an operation that was skipped itself.
-/
import Derived.Test.YtkdmpdbbcgdfkaaGreatDoorJ4
import Derived.ChangeKeysEq
import Derived.Test.YtkdmpdbbcgdfkaaGreatDoorJ6
import Derived.Laws.IdiomStrings
import Derived.Laws.BytesArg
import Derived.Laws.Strings
namespace Go.Proofs.YtkdmpdbbcgdfkaaGreatDoor.Vm
open Go
theorem run_eqItems_ints {P : Program} {e : TypeId} {kd kd' : IntKind} (hu : P.underlying e = some (.int kd')) (hp : P.plainKey e = true) (d : Nat) (la lb : List Int) (w : World) :
    ∀ is : List Nat, (∀ i ∈ is, i < la.length ∧ i < lb.length) → (Op.eqItems (d + 1) e 1 (la.map (Value.int kd)).toArray (lb.map (Value.int kd)).toArray is).run P w = .ok (is.all fun i => la.getD i 0 == lb.getD i 0) w
  | [], _ => by simp [Op.eqItems]
  | i :: is, hall => by
    obtain ⟨h1, h2⟩ := hall i (by simp)
    have e1 : ((la.map (Value.int kd)).toArray)[i * 1]? = some (.int kd (la.getD i 0)) := by simp [h1]
    have e2 : ((lb.map (Value.int kd)).toArray)[i * 1]? = some (.int kd (lb.getD i 0)) := by simp [h2]
    unfold Op.eqItems
    simp only [Sem.run_bind, run_part_plain w hp e1, run_part_plain w hp e2, Result.andThen_ok, run_equalIn_int w d e kd kd' _ _ hu]
    cases hc : (la.getD i 0 == lb.getD i 0) with
    | false => simp only [Bool.not_false, if_true, List.all_cons, hc, Bool.false_and]; rfl
    | true =>
      simp only [Bool.not_true, List.all_cons, hc, Bool.true_and]
      exact run_eqItems_ints hu hp d la lb w is (fun j hj => hall j (by simp [hj]))
theorem all_range_eq (n : Nat) (la lb : List Int) (h1 : la.length = n) (h2 : lb.length = n) : ((List.range n).all fun i => la.getD i 0 == lb.getD i 0) = decide (la = lb) := by
  by_cases h : la = lb
  · subst h
    simp
  · rw [decide_eq_false h]
    rw [Bool.eq_false_iff]
    intro hc
    refine h (List.ext_getElem? fun i => ?_)
    by_cases hi : i < n
    · have := List.all_eq_true.1 hc i (List.mem_range.2 hi)
      simp only [beq_iff_eq] at this
      rw [List.getElem?_eq_getElem (by omega), List.getElem?_eq_getElem (by omega)]
      rw [List.getD_eq_getElem?_getD, List.getD_eq_getElem?_getD, List.getElem?_eq_getElem (by omega), List.getElem?_eq_getElem (by omega)] at this
      simpa using this
    · rw [List.getElem?_eq_none (by omega), List.getElem?_eq_none (by omega)]
section
variable {P : Program} {t e : TypeId} {kd kd' : IntKind} {n : Nat} {i : TypeInfo} (ht : P.underlying t = some (.array n e)) (hu : P.underlying e = some (.int kd')) (hp : P.plainKey e = true) (hi : P.info? e = some i) (hc : P.cellsOf e = 1) (hg : P.eqGuardType P.depth t = false)
include ht hu hp hi hc hg
/-- two arrays of integers are the same -/
theorem run_eq_ints (xo yo : Operand) (la lb : List Int) (h1 : la.length = n) (h2 : lb.length = n) (w : World) :
    (do eqGuard .eql t xo yo (.agg (la.map (Value.int kd)).toArray) (.agg (lb.map (Value.int kd)).toArray); binOp .eql t (.agg (la.map (Value.int kd)).toArray) (.agg (lb.map (Value.int kd)).toArray) : Sem Value).run P w = .ok (.bool (decide (la = lb))) w := by
  have he : (Op.equal t (.agg (la.map (Value.int kd)).toArray) (.agg (lb.map (Value.int kd)).toArray)).run P w = .ok (decide (la = lb)) w := by
    unfold Op.equal
    rw [show Op.maxDepth = 9998 + 1 + 1 from rfl, run_equalIn_array (P := P) w (9998 + 1) _ _ ht hi, hc, run_eqItems_ints hu hp 9998 la lb w _ (fun i hi => by rw [List.mem_range] at hi; omega), all_range_eq n la lb h1 h2]
  have hgd : (eqGuard .eql t xo yo (.agg (la.map (Value.int kd)).toArray) (.agg (lb.map (Value.int kd)).toArray)).run P w = .ok () w := by
    simp [eqGuard, hg]
  rw [Sem.run_bind, hgd]
  simp [binOp, he]
theorem run_ne_ints (xo yo : Operand) (la lb : List Int) (h1 : la.length = n) (h2 : lb.length = n) (w : World) :
    (do eqGuard .neq t xo yo (.agg (la.map (Value.int kd)).toArray) (.agg (lb.map (Value.int kd)).toArray); binOp .neq t (.agg (la.map (Value.int kd)).toArray) (.agg (lb.map (Value.int kd)).toArray) : Sem Value).run P w = .ok (.bool (!decide (la = lb))) w := by
  have he : (Op.equal t (.agg (la.map (Value.int kd)).toArray) (.agg (lb.map (Value.int kd)).toArray)).run P w = .ok (decide (la = lb)) w := by
    unfold Op.equal
    rw [show Op.maxDepth = 9998 + 1 + 1 from rfl, run_equalIn_array (P := P) w (9998 + 1) _ _ ht hi, hc, run_eqItems_ints hu hp 9998 la lb w _ (fun i hi => by rw [List.mem_range] at hi; omega), all_range_eq n la lb h1 h2]
  have hgd : (eqGuard .neq t xo yo (.agg (la.map (Value.int kd)).toArray) (.agg (lb.map (Value.int kd)).toArray)).run P w = .ok () w := by
    simp [eqGuard, hg]
  rw [Sem.run_bind, hgd]
  simp [binOp, he]
end
section
variable {P : Program} {n : Nat} {Q : Exit → Fr → Heap → Prop} {fr : Fr} {h : Heap} {c : Operand} {x y : Code}
theorem cw_bne_yes {a b : Int} (hc : ev fr c = some (.bool (a != b))) (hp : a ≠ b) (H : Cw P n x Q fr h) : Cw P n (.cond c x y) Q fr h := cw_true (by rw [hc]; simp [hp]) H
theorem cw_bne_no {a b : Int} (hc : ev fr c = some (.bool (a != b))) (hp : a = b) (H : Cw P n y Q fr h) : Cw P n (.cond c x y) Q fr h := cw_false (by rw [hc]; simp [hp]) H
theorem cw_beq_yes {a b : Int} (hc : ev fr c = some (.bool (a == b))) (hp : a = b) (H : Cw P n x Q fr h) : Cw P n (.cond c x y) Q fr h := cw_true (by rw [hc]; simp [hp]) H
theorem cw_beq_no {a b : Int} (hc : ev fr c = some (.bool (a == b))) (hp : a ≠ b) (H : Cw P n y Q fr h) : Cw P n (.cond c x y) Q fr h := cw_false (by rw [hc]; simp [hp]) H
end
section
variable {P : Program} {all : List Oper} {o : Oper} {r : List Oper} {fr : Fr} {h : Heap} {K : Fr → Heap → Prop}
/-- one operation that only reads, with the value that we say -/
theorem ops_q {v : Value} (hg : o.guard = none) (hq : quietOp P o = true) (hv : ∀ k : Value → Prop, k v → opq P o fr h k) (H : evOps P all r (put fr o.dst v) h K) : evOps P all (o :: r) fr h K := by
  unfold evOps gk
  rw [hg]
  simp only []
  unfold opx
  rw [hq]
  exact hv _ H
/-- the same, of an operation that is carried out where slot d says so -/
theorem ops_g {v : Value} {j d : Nat} {b : Bool} (hg : o.guard = some (j, b)) (hd : (all[j]?).bind (·.dst) = some d) (hl : lk fr d = some (.bool b)) (hq : quietOp P o = true) (hv : ∀ k : Value → Prop, k v → opq P o fr h k)
    (H : evOps P all r (put fr o.dst v) h K) : evOps P all (o :: r) fr h K := by
  unfold evOps gk
  rw [hg]
  simp only [hd, hl]
  have : opx P o fr h (fun v h' => evOps P all r (put fr o.dst v) h' K) := by
    unfold opx
    rw [hq]
    exact hv _ H
  cases b <;> exact this
/-- an operation that is passed over -/
theorem ops_skip {j d : Nat} {b : Bool} (hg : o.guard = some (j, b)) (hd : (all[j]?).bind (·.dst) = some d) (hl : lk fr d = some (.bool !b)) (H : evOps P all r (put fr o.dst undef) h K) : evOps P all (o :: r) fr h K := by
  unfold evOps gk
  rw [hg]
  simp only [hd, hl]
  cases b <;> exact H
theorem head_q {imp : Nat → Bool} {h0 : Heap} {L : Fr → Heap → Prop} {i : Nat} {p : List Nat} {v : Value} (ho : all[i]? = some o) (hg : o.guard = none) (hi : imp i = false) (hq : quietOp P o = true)
    (hv : ∀ k : Value → Prop, k v → opq P o fr h0 k) (H : evH P all imp h0 L p (put fr o.dst v) h) : evH P all imp h0 L (i :: p) fr h := by
  unfold evH gk
  simp only [ho, hg, hi]
  unfold opqc
  rw [hq]
  exact hv _ H
end
end Go.Proofs.YtkdmpdbbcgdfkaaGreatDoor.Vm
namespace Go.Proofs.YtkdmpdbbcgdfkaaGreatDoor
open Go Vm
set_option maxRecDepth 100000
theorem u8v_inj (l m : List UInt8) : (l.map (fun b => (b.toNat : Int)) = m.map (fun b => (b.toNat : Int))) ↔ l = m := by
  constructor
  · intro h
    refine List.map_inj_right ?_ |>.1 h
    intro a b hab
    exact UInt8.toNat_inj.1 (by exact_mod_cast hab)
  · rintro rfl; rfl
theorem map_u8v (l : List UInt8) : l.map u8v = (l.map (fun b => (b.toNat : Int))).map (Value.int .u8) := by
  rw [List.map_map]; rfl
theorem dig_eq (xo yo : Operand) (l m : List UInt8) (h1 : l.length = 32) (h2 : m.length = 32) (w : World) :
    (do eqGuard .eql 53 xo yo (.agg (l.map u8v).toArray) (.agg (m.map u8v).toArray); binOp .eql 53 (.agg (l.map u8v).toArray) (.agg (m.map u8v).toArray) : Sem Value).run Tryz.prog w = .ok (.bool (decide (l = m))) w := by
  rw [map_u8v, map_u8v, run_eq_ints (P := Tryz.prog) (t := 53) (e := 5) (n := 32) rfl rfl (by kernel_rfl) (i := Tryz.prog.types[5]) rfl (by kernel_rfl) (by kernel_rfl) xo yo _ _ (by simpa using h1) (by simpa using h2) w]
  simp only [u8v_inj]
theorem dig_ne (xo yo : Operand) (l m : List UInt8) (h1 : l.length = 32) (h2 : m.length = 32) (w : World) :
    (do eqGuard .neq 53 xo yo (.agg (l.map u8v).toArray) (.agg (m.map u8v).toArray); binOp .neq 53 (.agg (l.map u8v).toArray) (.agg (m.map u8v).toArray) : Sem Value).run Tryz.prog w = .ok (.bool (!decide (l = m))) w := by
  rw [map_u8v, map_u8v, run_ne_ints (P := Tryz.prog) (t := 53) (e := 5) (n := 32) rfl rfl (by kernel_rfl) (i := Tryz.prog.types[5]) rfl (by kernel_rfl) (by kernel_rfl) xo yo _ _ (by simpa using h1) (by simpa using h2) w]
  simp only [u8v_inj]
theorem RD.at {D : Nat → Prop} {h : Heap} {b n : Nat} {l : List UInt8} (hr : rdN h b 0 (l.map u8v)) (hl : l.length = n) (hm : n ≤ maxLen) (hb : D b) : RD D h (.slice (some ⟨b, 0, none⟩) n n) l := by
  subst hl
  exact ⟨⟨by simp, .inr ⟨_, _, rfl, Nat.le_refl _, hm, rdA_plain.2 hr⟩⟩, fun _ c hc => by rw [ob_slice] at hc; exact hc ▸ hb⟩
theorem RD.nil {D : Nat → Prop} {h : Heap} : RD D h (.slice none 0 0) [] := ⟨⟨by simp, .inl ⟨rfl, rfl⟩⟩, fun e => absurd rfl e⟩
theorem PD.empty {D : Nat → Prop} {h : Heap} : PD D h (.slice none 0 0) [] [] := ⟨⟨by simp, .inl ⟨rfl, rfl⟩⟩, fun e => absurd rfl e, fun i m hi => by simp at hi⟩
theorem PD.one {D : Nat → Prop} {h : Heap} {b : Nat} {v : Value} {m : List UInt8} {t : TypeId} (hr : Blk h b [v] t) (hb : D b) (hv : RD D h v m) : PD D h (.slice (some ⟨b, 0, none⟩) 1 1) [m] [v] := by
  refine ⟨⟨rfl, .inr ⟨_, 1, rfl, Nat.le_refl _, by decide, rdA_plain.2 hr.all⟩⟩, fun _ c hc => by rw [ob_slice] at hc; exact hc ▸ hb, ?_⟩
  intro i m' hi
  match i, hi with
  | 0, hi => simp at hi; exact ⟨v, rfl, hi ▸ hv⟩
theorem PD.two {D : Nat → Prop} {h : Heap} {b : Nat} {v w : Value} {m n : List UInt8} {t : TypeId} (hr : Blk h b [v, w] t) (hb : D b) (hv : RD D h v m) (hw : RD D h w n) : PD D h (.slice (some ⟨b, 0, none⟩) 2 2) [m, n] [v, w] := by
  refine ⟨⟨rfl, .inr ⟨_, 2, rfl, Nat.le_refl _, by decide, rdA_plain.2 hr.all⟩⟩, fun _ c hc => by rw [ob_slice] at hc; exact hc ▸ hb, ?_⟩
  intro i m' hi
  match i, hi with
  | 0, hi => simp at hi; exact ⟨v, rfl, hi ▸ hv⟩
  | 1, hi => simp at hi; exact ⟨w, rfl, hi ▸ hw⟩
theorem PD.three {D : Nat → Prop} {h : Heap} {b : Nat} {v w u : Value} {m n k : List UInt8} {t : TypeId} (hr : Blk h b [v, w, u] t) (hb : D b) (hv : RD D h v m) (hw : RD D h w n) (hu : RD D h u k) : PD D h (.slice (some ⟨b, 0, none⟩) 3 3) [m, n, k] [v, w, u] := by
  refine ⟨⟨rfl, .inr ⟨_, 3, rfl, Nat.le_refl _, by decide, rdA_plain.2 hr.all⟩⟩, fun _ c hc => by rw [ob_slice] at hc; exact hc ▸ hb, ?_⟩
  intro i m' hi
  match i, hi with
  | 0, hi => simp at hi; exact ⟨v, rfl, hi ▸ hv⟩
  | 1, hi => simp at hi; exact ⟨w, rfl, hi ▸ hw⟩
  | 2, hi => simp at hi; exact ⟨u, rfl, hi ▸ hu⟩
theorem Marked.chg {h h' : Heap} {b : Nat} {l : List Value} (m : Marked h h' b l) : Chg (fun c => c = b) h h' := ⟨by rw [m.size]; exact Nat.le_refl _, fun c _ hc => m.block c hc⟩
end Go.Proofs.YtkdmpdbbcgdfkaaGreatDoor
namespace Go.Proofs.YtkdmpdbbcgdfkaaGreatDoor
open Go Vm
set_option maxRecDepth 100000
theorem RB.more {h h' : Heap} {v : Value} {l : List UInt8} (r : RB h v l) (e : ExtH h h') : RB h' v l := Src.more r e
theorem RB.get {h : Heap} {v : Value} {l : List UInt8} (r : RB h v l) (t : Nat) (hlt : t < l.length) : ∃ b o c, v = .slice (some ⟨b, o, none⟩) l.length c ∧ rd h ⟨b, o + t, none⟩ = some (u8v (l.getD t 0)) := by
  rcases r.cases with ⟨_, rfl⟩ | ⟨A, cap, rfl, hc, hm, hr⟩
  · simp at hlt
  · have hs := hr.spot (by intro e; have := List.map_eq_nil_iff.1 e; subst this; simp at hlt)
    refine ⟨A.block, A.off, cap, by rw [← hs], ?_⟩
    rw [hs, rdA_plain] at hr
    exact hr t _ (map_get u8v l t 0 hlt)
theorem RB.max {h : Heap} {v : Value} {l : List UInt8} (r : RB h v l) : l.length ≤ maxLen := by
  rcases r.cases with ⟨_, rfl⟩ | ⟨A, cap, rfl, hc, hm, hr⟩
  · exact Nat.zero_le _
  · omega
theorem take_succ_eq {l m : List UInt8} {t : Nat} (hl : t < l.length) (hm : t < m.length) (h : l.take t = m.take t) : (l.take (t + 1) = m.take (t + 1)) ↔ l.getD t 0 = m.getD t 0 := by
  have e1 : l.take (t + 1) = l.take t ++ [l[t]] := by rw [List.take_add_one, List.getElem?_eq_getElem hl]; rfl
  have e2 : m.take (t + 1) = m.take t ++ [m[t]] := by rw [List.take_add_one, List.getElem?_eq_getElem hm]; rfl
  rw [e1, e2, h]
  rw [List.getD_eq_getElem?_getD, List.getD_eq_getElem?_getD, List.getElem?_eq_getElem hl, List.getElem?_eq_getElem hm]
  simp only [List.append_cancel_left_eq, List.cons.injEq, and_true, Option.getD_some]
theorem u8_ne (a b : UInt8) : (((a.toNat : Int)) != (b.toNat : Int)) = !decide (a = b) := by
  by_cases h : a = b
  · subst h; simp
  · have : a.toNat ≠ b.toNat := fun e => h (UInt8.toNat_inj.1 e)
    simp [h]
    exact_mod_cast this
theorem eight_take (n t : Nat) (ht : t < 8) : (Sha.eight n).take (t + 1) = (Sha.eight n).take t ++ [UInt8.ofNat (n / 2 ^ (56 - 8 * t))] := by
  have : t = 0 ∨ t = 1 ∨ t = 2 ∨ t = 3 ∨ t = 4 ∨ t = 5 ∨ t = 6 ∨ t = 7 := by omega
  rcases this with rfl | rfl | rfl | rfl | rfl | rfl | rfl | rfl <;> simp [Sha.eight]
/-- a row that was just made, read -/
theorem RB.of_newed {h h' : Heap} {c : Array Value} {l : List UInt8} {k : Nat} (n : Newed h h' (.cells c 5)) (hc : c.toList = l.map u8v) (hk : k = l.length) (hm : l.length ≤ maxLen) : RB h' (.slice (some ⟨h.size, 0, none⟩) k k) l := by
  subst hk
  refine ⟨by simp, .inr ⟨⟨h.size, 0, none⟩, l.length, rfl, Nat.le_refl _, hm, rdA_plain.2 ?_⟩⟩
  rw [← hc]
  exact n.blk.all
theorem zeros_step (n k : Nat) (hk : k < Sha.zeros n) : (n + (1 + k) + 8) % 64 ≠ 0 := by unfold Sha.zeros at hk; omega
theorem zeros_end (n : Nat) : (n + (1 + Sha.zeros n) + 8) % 64 = 0 := by unfold Sha.zeros; omega
end Go.Proofs.YtkdmpdbbcgdfkaaGreatDoor
namespace Go.Proofs.YtkdmpdbbcgdfkaaGreatDoor
open Go Vm
set_option maxRecDepth 100000
def bs (l : List UInt8) : ByteArray := ⟨l.toArray⟩
theorem bs_size (l : List UInt8) : (bs l).size = l.length := rfl
theorem bs_toList (l : List UInt8) : (bs l).toList = l := by
  exact ByteArray.toList_mk l
theorem conv_str {src dst e : TypeId} (hs : Tryz.prog.underlying src = some (.slice e)) (he : Tryz.prog.underlying e = some (.int .u8)) (hd : Tryz.prog.underlying dst = some .string) {h : Heap} {v : Value} {l : List UInt8} (r : RB h v l) :
    RunsV Tryz.prog (convert src dst v) h fun u h' => u = .string (bs l) ∧ h' = h := by
  intro w hw
  subst hw
  rcases r.cases with ⟨rfl, rfl⟩ | ⟨A, cap, rfl, hc, hm, hr⟩
  · exact ⟨_, w, run_convert_bytes_nil (P := Tryz.prog) w src e hs he 0 0 dst hd, SameEnv.refl w, rfl, rfl⟩
  · exact ⟨_, w, run_convert_bytes_back (P := Tryz.prog) w src dst e A cap l hs he hd (fun j hj => by
      rw [cell_eq_rd]
      exact hr j _ (by simp [hj, u8v])), SameEnv.refl w, rfl, rfl⟩
theorem say {k : Value → Prop} {p : Prop} [Decidable p] (b : Bool) (hb : decide p = b) (hk : k (.bool b)) : k (.bool (decide p)) := by rw [hb]; exact hk
theorem bs_get (s : List UInt8) (i : Nat) (h : i < s.length) : (bs s)[i]? = some (s.getD i 0) := by
  have hs : i < (bs s).size := h
  rw [getElem?_pos (bs s) i hs]
  congr 1
  rw [List.getD_eq_getElem?_getD, List.getElem?_eq_getElem h]
  rfl
theorem bs_append (a b : List UInt8) : bs a ++ bs b = bs (a ++ b) := by
  apply ByteArray.ext
  show (bs a ++ bs b).data = _
  rw [ByteArray.data_append]
  simp [bs]
end Go.Proofs.YtkdmpdbbcgdfkaaGreatDoor
namespace Go.Proofs.YtkdmpdbbcgdfkaaGreatDoor.Vm
open Go
variable {ds : List Deferred}
set_option linter.unusedSimpArgs false
def intk2 (op : BinOp) (a : IntKind) (x y : Int) (k : Value → Prop) : Prop :=
  match op with
  | .add => ∃ z, a.wrap (x + y) = z ∧ k (.int a z)
  | .sub => ∃ z, a.wrap (x - y) = z ∧ k (.int a z)
  | .mul => ∃ z, a.wrap (x * y) = z ∧ k (.int a z)
  | .eql => ∃ r, decide (x = y) = r ∧ k (.bool r)
  | .neq => ∃ r, decide (x ≠ y) = r ∧ k (.bool r)
  | .lss => ∃ r, decide (x < y) = r ∧ k (.bool r)
  | .leq => ∃ r, decide (x ≤ y) = r ∧ k (.bool r)
  | .gtr => ∃ r, decide (x > y) = r ∧ k (.bool r)
  | .geq => ∃ r, decide (x ≥ y) = r ∧ k (.bool r)
  | .quo => y ≠ 0 ∧ ∃ z, a.wrap (x.tdiv y) = z ∧ k (.int a z)
  | .rem => y ≠ 0 ∧ ∃ z, x.tmod y = z ∧ k (.int a z)
  | .and => ∃ z, bits .and a x y = z ∧ k (.int a z)
  | .or => ∃ z, bits .or a x y = z ∧ k (.int a z)
  | .xor => ∃ z, bits .xor a x y = z ∧ k (.int a z)
  | .andNot => ∃ z, bits .andNot a x y = z ∧ k (.int a z)
  | op => intk op a x y k
theorem beq_dec {α : Type} [BEq α] [LawfulBEq α] [DecidableEq α] (x y : α) : (x == y) = decide (x = y) := by
  by_cases h : x = y
  · subst h; simp
  · rw [decide_eq_false h]; simpa using h
theorem bne_dec {α : Type} [BEq α] [LawfulBEq α] [DecidableEq α] (x y : α) : (!(x == y)) = decide (x ≠ y) := by
  by_cases h : x = y
  · subst h; simp
  · rw [decide_eq_true h]; simpa using h
theorem intk2_elim {op : BinOp} {a : IntKind} {x y : Int} {k : Value → Prop} (H : intk2 op a x y k) : intk op a x y k := by
  unfold intk2 at H
  split at H
  case h_16 => exact H
  case h_10 => obtain ⟨h0, z, rfl, H⟩ := H; exact ⟨h0, H⟩
  case h_11 => obtain ⟨h0, z, rfl, H⟩ := H; exact ⟨h0, H⟩
  all_goals obtain ⟨z, rfl, H⟩ := H
  case h_4 => exact (show k (.bool (x == y)) from (by rw [beq_dec]; exact H))
  case h_5 => exact (show k (.bool (x != y)) from (by rw [show (x != y) = decide (x ≠ y) from bne_dec x y]; exact H))
  all_goals exact H
def binq2 (P : Program) (op : BinOp) (t : TypeId) (xo yo : Operand) (x y : Value) (k : Value → Prop) : Prop :=
  match x, y with
  | .int a x, .int b y => match op with
    | .shl => 0 ≤ y ∧ ∃ z, a.wrap (x * 2 ^ min y.toNat a.bits) = z ∧ k (.int a z)
    | .shr => 0 ≤ y ∧ ∃ z, x / 2 ^ min y.toNat a.bits = z ∧ k (.int a z)
    | op => if a = b then intk2 op a x y k else False
  | .string x, .string y => match op with
    | .eql => ∃ r, decide (x.toList = y.toList) = r ∧ k (.bool r)
    | .neq => ∃ r, decide (x.toList ≠ y.toList) = r ∧ k (.bool r)
    | op => binq P op t xo yo (.string x) (.string y) k
  | x, y => binq P op t xo yo x y k
theorem binq2_elim {P : Program} {op : BinOp} {t : TypeId} {xo yo : Operand} {x y : Value} {k : Value → Prop} (H : binq2 P op t xo yo x y k) : binq P op t xo yo x y k := by
  unfold binq2 at H
  split at H
  · split at H
    · obtain ⟨h0, z, rfl, H⟩ := H; exact ⟨h0, H⟩
    · obtain ⟨h0, z, rfl, H⟩ := H; exact ⟨h0, H⟩
    · rename_i h1 h2
      split at H
      · rename_i e
        have := intk2_elim H
        subst e
        unfold binq
        cases op <;> first
          | exact absurd rfl h1
          | exact absurd rfl h2
          | (simp only [if_true]; exact this)
      · exact H.elim
  · rename_i x y
    split at H
    · obtain ⟨r, rfl, H⟩ := H
      exact (show k (.bool (x.toList == y.toList)) from (by rw [beq_dec]; exact H))
    · obtain ⟨r, rfl, H⟩ := H
      exact (show k (.bool !(x.toList == y.toList)) from (by rw [bne_dec]; exact H))
    · exact H
  · exact H
def opq2 (P : Program) (o : Oper) (fr : Fr) (h : Heap) (k : Value → Prop) : Prop :=
  match o.op with
  | .binOp op t x y _ => evk fr x fun a => evk fr y fun b => binq2 P op t x y a b k
  | .slice t x lo hi none => evk fr x fun v => match P.underlying t, v with
    | some .string, .string s => bnd fr lo 0 fun l => bnd fr hi s.size fun h => (0 ≤ l ∧ l ≤ h ∧ h ≤ s.size) ∧ ∃ u, s.extract l.toNat h.toNat = u ∧ k (.string u)
    | _, _ => opq P o fr h k
  | .call c => match c.callee with
    | .builtin .len => match c.args[0]?, c.argTypes[0]? with
      | some x, some T => evk fr x fun v => match P.underlying T, v with
        | some .string, .string s => ∃ n : Nat, s.size = n ∧ k (.int .i64 n)
        | _, _ => opq P o fr h k
      | _, _ => opq P o fr h k
    | _ => opq P o fr h k
  | .unOp op _ x => evk fr x fun v => match op, v with
    | .neg, .int kd n => ∃ z, kd.wrap (0 - n) = z ∧ k (.int kd z)
    | .xor, .int kd n => ∃ z, bits .xor kd (if kd.signed then -1 else kd.max) n = z ∧ k (.int kd z)
    | _, _ => opq P o fr h k
  | .convert s t x => evk fr x fun v => match P.underlying s, P.underlying t, v with
    | some _, some (.int kd), .int _ n => ∃ z, kd.wrap n = z ∧ k (.int kd z)
    | _, _, _ => opq P o fr h k
  | _ => opq P o fr h k
theorem bnd_mono {fr : Fr} {x : Option Operand} {d : Nat} {k k' : Int → Prop} (H : bnd fr x d k) (hk : ∀ i, k i → k' i) : bnd fr x d k' := by
  unfold bnd at *
  split at H
  · exact hk _ H
  · unfold evk at *
    split at H
    · rename_i v hv
      split at H
      · exact hk _ H
      · exact H.elim
    · exact H.elim
theorem opq2_elim {P : Program} {o : Oper} {fr : Fr} {h : Heap} {k : Value → Prop} (H : opq2 P o fr h k) : opq P o fr h k := by
  unfold opq2 at H
  split at H
  · rename_i op t x y yt ho
    obtain ⟨u, hu, H⟩ := evk_elim H
    obtain ⟨v, hv, H⟩ := evk_elim H
    unfold opq evk
    simp only [ho, hu, hv]
    exact binq2_elim H
  · rename_i t x lo hi ho
    obtain ⟨v, hv, H⟩ := evk_elim H
    split at H
    · rename_i s ht
      unfold opq evk
      simp only [ho, hv, ht]
      refine bnd_mono H fun l H => bnd_mono H fun j H => ?_
      obtain ⟨h1, u, rfl, H⟩ := H
      exact ⟨h1, H⟩
    · exact H
  · rename_i c ho
    split at H
    · rename_i hc
      split at H
      · rename_i x T hx hT
        obtain ⟨v, hv, H⟩ := evk_elim H
        split at H
        · rename_i s ht
          obtain ⟨n, rfl, H⟩ := H
          unfold opq lenq evk
          simp only [ho, hc, hx, hT, hv, ht]
          exact H
        · exact H
      · exact H
    · exact H
  · rename_i op t x ho
    obtain ⟨v, hv, H⟩ := evk_elim H
    split at H
    · obtain ⟨z, rfl, H⟩ := H
      unfold opq evk
      simp only [ho, hv]
      exact H
    · obtain ⟨z, rfl, H⟩ := H
      unfold opq evk
      simp only [ho, hv]
      exact H
    · exact H
  · rename_i src dst x ho
    obtain ⟨v, hv, H⟩ := evk_elim H
    split at H
    · rename_i hs ht
      obtain ⟨z, rfl, H⟩ := H
      unfold opq evk
      simp only [ho, hv, hs, ht]
      exact H
    · exact H
  · exact H
def opx2 (P : Program) (o : Oper) (fr : Fr) (h : Heap) (k : Value → Heap → Prop) : Prop :=
  match quietOp P o with
  | true => opq2 P o fr h (fun v => k v h)
  | false => opi P o fr h k
theorem opx2_elim {P : Program} {o : Oper} {fr : Fr} {h : Heap} {k : Value → Heap → Prop} (H : opx2 P o fr h k) : opx P o fr h k := by
  unfold opx2 at H
  unfold opx
  split at H
  · rename_i hq; simp only [hq]; exact opq2_elim H
  · rename_i hq; simp only [hq]; exact H
def evG (P : Program) (all : List Oper) : List Oper → Fr → Heap → (Fr → Heap → Prop) → Prop
  | [], fr, h, K => K fr h
  | o :: r, fr, h, K => gk all o fr (opx2 P o fr h fun v h' => evG P all r (put fr o.dst v) h' K) (evG P all r (put fr o.dst undef) h K)
theorem evG_sound {P : Program} {n : Nat} {all : List Oper} {Q : Exit → Act → World → Prop} {K : Fr → Heap → Prop} : ∀ (l : List Oper), (∀ o ∈ l, dok n o.dst) → ∀ (fr : Fr) (h : Heap) (a : Act) (w : World),
    evG P all l fr h K → Hold ds n fr a → w.heap = h → (∀ fr' a' w', Hold ds n fr' a' → SameEnv w w' → K fr' w'.heap → Q .normal a' w') → wpList P all.toArray Q l a w
  | [], _, fr, h, a, w, H, hF, hw, hQ => hQ fr a w hF (SameEnv.refl w) (hw ▸ H)
  | o :: r, hd, fr, h, a, w, H, hF, hw, hQ => by
    unfold evG at H
    unfold wpList
    rcases gk_elim H hF with ⟨hg, H⟩ | ⟨hg, H⟩
    · rw [if_pos hg]
      refine .inl (wp_of_comes (opx_sound hF (opx2_elim H) hw) fun v w' hs hk => ?_)
      exact evG_sound r (fun o ho => hd o (by simp [ho])) _ _ _ w' hk (hF.put _ _ (hd o (by simp))) rfl (fun fr' a' w'' h1 h2 h3 => hQ fr' a' w'' h1 (hs.trans h2) h3)
    · rw [if_neg (by simp [hg])]
      exact evG_sound r (fun o ho => hd o (by simp [ho])) _ _ _ w H (hF.put _ _ (hd o (by simp))) hw hQ
def opqc2 (P : Program) (o : Oper) (fr : Fr) (h : Heap) (k : Value → Prop) : Prop :=
  match quietOp P o with
  | true => opq2 P o fr h k
  | false => opqc P o fr h k
theorem opqc2_elim {P : Program} {o : Oper} {fr : Fr} {h : Heap} {k : Value → Prop} (H : opqc2 P o fr h k) : opqc P o fr h k := by
  unfold opqc2 at H
  split at H
  · rename_i hq; unfold opqc; simp only [hq]; exact opq2_elim H
  · exact H
/-- a drawn head of operations that only read -/
def evHG (P : Program) (all : List Oper) (h0 : Heap) (L : Fr → Heap → Prop) : List Nat → Fr → Heap → Prop
  | [], fr, h => ∀ h', ExtH h h' → L fr h'
  | i :: p, fr, h => match all[i]? with
    | none => False
    | some o => gk all o fr (opqc2 P o fr h0 fun v => evHG P all h0 L p (put fr o.dst v) h) (evHG P all h0 L p (put fr o.dst undef) h)
theorem evHG_sound {P : Program} {n : Nat} {all : List Oper} {h0 : Heap} {L : Fr → Heap → Prop} {L' : Act → World → Prop} (hd : ∀ o ∈ all, dok n o.dst) (w0 : World) (hL : ∀ fr a w, Hold ds n fr a → SameEnv w0 w → L fr w.heap → L' a w) :
    ∀ (p : List Nat) (fr : Fr) (h : Heap) (a : Act) (w : World), evHG P all h0 L p fr h → Hold ds n fr a → ExtH h w.heap → ExtH h0 w.heap → SameEnv w0 w → wpH P (fun b => b < h0.size) all.toArray (fun _ => false) L' p a w
  | [], fr, h, a, w, H, hF, hw, _, hs => hL fr a w hF hs (H _ hw)
  | i :: p, fr, h, a, w, H, hF, hw, hw0, hs => by
    unfold evHG at H
    unfold wpH
    cases ho : all[i]? with
    | none => simp [ho] at H
    | some o =>
      simp only [ho] at H
      have hdo : dok n o.dst := hd o (List.mem_of_getElem? ho)
      have ho' : all.toArray[i]? = some o := by simpa using ho
      simp only [Bool.false_eq_true, if_false, ho']
      rcases gk_elim H hF with ⟨hg, H⟩ | ⟨hg, H⟩
      · obtain ⟨v, hk, hv⟩ := opqc_sound hF (opqc2_elim H) hw0
        exact ⟨v, .inl ⟨hg, hv⟩, fun w2 h2 => evHG_sound hd w0 hL p _ _ _ w2 hk (hF.put _ _ hdo) (hw.trans h2.heap) (hw0.trans h2.heap) (hs.trans h2.env)⟩
      · exact ⟨undef, .inr ⟨hg, rfl⟩, fun w2 h2 => evHG_sound hd w0 hL p _ _ _ w2 H (hF.put _ _ hdo) (hw.trans h2.heap) (hw0.trans h2.heap) (hs.trans h2.env)⟩
/-- a drawn head, some of whose operations make memory -/
def evH2 (P : Program) (all : List Oper) (imp : Nat → Bool) (h0 : Heap) (L : Fr → Heap → Prop) : List Nat → Fr → Heap → Prop
  | [], fr, h => ∀ h', ExtH h h' → L fr h'
  | i :: p, fr, h => match all[i]? with
    | none => False
    | some o => gk all o fr
        (match imp i with
          | true => ∀ h1, ExtH h h1 → opx2 P o fr h1 fun v h2 => ExtU h0.size h1 h2 ∧ ∀ h3, ExtH h2 h3 → evH2 P all imp h0 L p (put fr o.dst v) h3
          | false => opqc2 P o fr h0 fun v => evH2 P all imp h0 L p (put fr o.dst v) h)
        (evH2 P all imp h0 L p (put fr o.dst undef) h)
theorem evH2_sound {P : Program} {n : Nat} {all : List Oper} {imp : Nat → Bool} {h0 : Heap} {L : Fr → Heap → Prop} {L' : Act → World → Prop} (hd : ∀ o ∈ all, dok n o.dst) (w0 : World) (hL : ∀ fr a w, Hold ds n fr a → SameEnv w0 w → L fr w.heap → L' a w) :
    ∀ (p : List Nat) (fr : Fr) (h : Heap) (a : Act) (w : World), evH2 P all imp h0 L p fr h → Hold ds n fr a → ExtH h w.heap → ExtH h0 w.heap → SameEnv w0 w → wpH P (fun b => b < h0.size) all.toArray imp L' p a w
  | [], fr, h, a, w, H, hF, hw, _, hs => hL fr a w hF hs (H _ hw)
  | i :: p, fr, h, a, w, H, hF, hw, hw0, hs => by
    unfold evH2 at H
    unfold wpH
    cases ho : all[i]? with
    | none => simp [ho] at H
    | some o =>
      simp only [ho] at H
      have hdo : dok n o.dst := hd o (List.mem_of_getElem? ho)
      have ho' : all.toArray[i]? = some o := by simpa using ho
      cases him : imp i with
      | true =>
        simp only [him] at H
        simp only [if_true]
        unfold opX
        simp only [ho']
        rcases gk_elim H hF with ⟨hg, H⟩ | ⟨hg, H⟩
        · rw [if_pos hg]
          refine extX_of_comes (k := fun v h3 => ExtH h0 h3 ∧ evH2 P all imp h0 L p (put fr o.dst v) h3) ?_ fun v w' hs' hk => ?_
          · refine (opx_sound hF (opx2_elim (H w.heap hw)) rfl).mono fun v h2 hk => ⟨hk.1.p, fun h3 h23 => ⟨?_, hk.2 h3 h23⟩⟩
            have h02 : ExtH h0 h2 := ⟨Nat.le_trans hw0.size hk.1.size, fun b hb => (hk.1.block b hb (Nat.lt_of_lt_of_le hb hw0.size)).trans (hw0.block b hb)⟩
            exact h02.trans h23
          · exact evH2_sound hd w0 hL p _ _ _ w' hk.2 (hF.put _ _ hdo) (ExtH.refl _) hk.1 (hs.trans hs')
        · rw [if_neg (by simp [hg])]
          exact fun w3 h3 => evH2_sound hd w0 hL p _ _ _ w3 H (hF.put _ _ hdo) (hw.trans h3.heap) (hw0.trans h3.heap) (hs.trans h3.env)
      | false =>
        simp only [him] at H
        simp only [Bool.false_eq_true, if_false, ho']
        rcases gk_elim H hF with ⟨hg, H⟩ | ⟨hg, H⟩
        · obtain ⟨v, hk, hv⟩ := opqc_sound hF (opqc2_elim H) hw0
          exact ⟨v, .inl ⟨hg, hv⟩, fun w2 h2 => evH2_sound hd w0 hL p _ _ _ w2 hk (hF.put _ _ hdo) (hw.trans h2.heap) (hw0.trans h2.heap) (hs.trans h2.env)⟩
        · exact ⟨undef, .inr ⟨hg, rfl⟩, fun w2 h2 => evH2_sound hd w0 hL p _ _ _ w2 H (hF.put _ _ hdo) (hw.trans h2.heap) (hw0.trans h2.heap) (hs.trans h2.env)⟩
section
variable {P : Program} {n : Nat} {Q : Exit → Fr → Heap → Prop} {fr : Fr} {h : Heap}
theorem cw_dgi {id : Nat} {ops : Array Oper} (hm : P.follows .mixedOrders = true) (m : Nat) (imp : Nat → Bool) (p : List Nat) (hB : regB ops m imp p = true) (hd : dstsB n ops.toList = true)
    (H : evH2 P ops.toList imp h (fun fr h => evG P ops.toList (ops.toList.drop m) fr h fun fr h => Q .normal fr h) p fr h) : CwD ds P n (.region id ops true) Q fr h :=
  ⟨fun w0 a w hF hs hw => by
    refine wp_region_head (fun b => b < h.size) m imp p hm hB ?_
    have := evH2_sound (n := n) (P := P) (all := ops.toList) (imp := imp) (h0 := h) (fun o ho => dok_of hd ho) w0 (L' := fun a' w' => wpList P ops (Post ds w0 n Q) (ops.toList.drop m) a' w')
      (fun fr1 a' w' hF' hs' hk => by
        have := evG_sound (n := n) (Q := Post ds w0 n Q) (ops.toList.drop m) (fun o ho => dok_of hd (List.mem_of_mem_drop ho)) fr1 w'.heap a' w' hk hF' rfl (fun fr'' a'' w'' hF'' hs'' hk' => ⟨fr'', hF'', hs'.trans hs'', hk'⟩)
        simpa using this)
      p fr h a { w with drawn := w.drawn + 1 } H hF (hw ▸ ExtH.refl _) (hw ▸ ExtH.refl _) ⟨hs.os, hs.tape, hs.output⟩
    simpa using this⟩
theorem cw_go {id : Nat} {ops : Array Oper} (hd : dstsB n ops.toList = true) (H : evG P ops.toList ops.toList fr h fun fr h => Q .normal fr h) : CwD ds P n (.region id ops false) Q fr h :=
  ⟨fun w0 a w hF hs hw => wp_region_list (by
    have := evG_sound (n := n) (Q := Post ds w0 n Q) ops.toList (fun o ho => dok_of hd ho) fr h a w H hF hw (fun fr' a' w' hF' hs' hk => ⟨fr', hF', hs.trans hs', hk⟩)
    simpa using this)⟩
theorem cw_dgo {id : Nat} {ops : Array Oper} (hm : P.follows .mixedOrders = true) (m : Nat) (p : List Nat) (hB : regB ops m (fun _ => false) p = true) (hd : dstsB n ops.toList = true)
    (H : evHG P ops.toList h (fun fr h => evG P ops.toList (ops.toList.drop m) fr h fun fr h => Q .normal fr h) p fr h) : CwD ds P n (.region id ops true) Q fr h :=
  ⟨fun w0 a w hF hs hw => by
    refine wp_region_head (fun b => b < h.size) m (fun _ => false) p hm hB ?_
    have := evHG_sound (n := n) (P := P) (all := ops.toList) (h0 := h) (fun o ho => dok_of hd ho) w0 (L' := fun a' w' => wpList P ops (Post ds w0 n Q) (ops.toList.drop m) a' w')
      (fun fr1 a' w' hF' hs' hk => by
        have := evG_sound (n := n) (Q := Post ds w0 n Q) (ops.toList.drop m) (fun o ho => dok_of hd (List.mem_of_mem_drop ho)) fr1 w'.heap a' w' hk hF' rfl (fun fr'' a'' w'' hF'' hs'' hk' => ⟨fr'', hF'', hs'.trans hs'', hk'⟩)
        simpa using this)
      p fr h a { w with drawn := w.drawn + 1 } H hF (hw ▸ ExtH.refl _) (hw ▸ ExtH.refl _) ⟨hs.os, hs.tape, hs.output⟩
    simpa using this⟩
end
/-! ### what a step is told by -/
theorem say_t {p : Prop} [Decidable p] {k : Bool → Prop} (h : p) (H : k true) : ∃ r, decide p = r ∧ k r := ⟨true, decide_eq_true h, H⟩
theorem say_f {p : Prop} [Decidable p] {k : Bool → Prop} (h : ¬ p) (H : k false) : ∃ r, decide p = r ∧ k r := ⟨false, decide_eq_false h, H⟩
theorem say_d {p : Prop} [Decidable p] {k : Bool → Prop} (H1 : p → k true) (H2 : ¬ p → k false) : ∃ r, decide p = r ∧ k r := by
  by_cases h : p
  · exact say_t h (H1 h)
  · exact say_f h (H2 h)
theorem say_i {x : Int} {k : Int → Prop} (h : -9223372036854775808 ≤ x ∧ x < 9223372036854775808) (H : k x) : ∃ z, IntKind.i64.wrap x = z ∧ k z := ⟨x, by rw [IntKind.wrap_i64]; omega, H⟩
theorem say_v {α : Type} {v : α} {k : α → Prop} (H : k v) : ∃ z, v = z ∧ k z := ⟨v, rfl, H⟩
theorem say_w {x y : Int} {k : Int → Prop} (h : x = y) (H : k y) : ∃ z, x = z ∧ k z := ⟨y, h, H⟩
theorem say_u8 {x : Int} {k : Int → Prop} (h : 0 ≤ x ∧ x < 256) (H : k x) : ∃ z, IntKind.u8.wrap x = z ∧ k z := ⟨x, by rw [IntKind.wrap_u8]; omega, H⟩
theorem say_u32 {x : Int} {k : Int → Prop} (h : 0 ≤ x ∧ x < 4294967296) (H : k x) : ∃ z, IntKind.u32.wrap x = z ∧ k z := ⟨x, by rw [IntKind.wrap_u32]; omega, H⟩
theorem say_u64 {x : Int} {k : Int → Prop} (h : 0 ≤ x ∧ x < 18446744073709551616) (H : k x) : ∃ z, IntKind.u64.wrap x = z ∧ k z := ⟨x, by rw [IntKind.wrap_u64]; omega, H⟩
theorem bs_extract (s : List UInt8) (a b : Nat) : (bs s).extract a b = bs ((s.take b).drop a) := by
  apply ByteArray.ext
  simp only [bs, ByteArray.data_extract, List.extract_toArray]
  rw [List.extract_eq_take_drop]
  congr 1
  rw [← List.drop_take]
theorem say_cut {s : List UInt8} {l h : Int} {k : ByteArray → Prop} (h1 : 0 ≤ l) (h2 : l ≤ h) (h3 : h ≤ s.length) (H : k (bs ((s.take h.toNat).drop l.toNat))) :
    (0 ≤ l ∧ l ≤ h ∧ h ≤ ((bs s).size : Int)) ∧ ∃ u, (bs s).extract l.toNat h.toNat = u ∧ k u := ⟨⟨h1, h2, h3⟩, _, bs_extract _ _ _, H⟩
theorem say_to {s : List UInt8} {h : Int} {k : ByteArray → Prop} (h2 : 0 ≤ h) (h3 : h ≤ s.length) (H : k (bs (s.take h.toNat))) :
    ((0 : Int) ≤ 0 ∧ 0 ≤ h ∧ h ≤ ((bs s).size : Int)) ∧ ∃ u, (bs s).extract (0 : Int).toNat h.toNat = u ∧ k u := ⟨⟨Int.le_refl _, h2, h3⟩, _, bs_extract _ _ _, H⟩
theorem say_from {s : List UInt8} {l : Int} {k : ByteArray → Prop} (h1 : 0 ≤ l) (h2 : l ≤ s.length) (H : k (bs (s.drop l.toNat))) :
    (0 ≤ l ∧ l ≤ ((bs s).size : Int) ∧ ((bs s).size : Int) ≤ ((bs s).size : Int)) ∧ ∃ u, (bs s).extract l.toNat ((bs s).size : Int).toNat = u ∧ k u :=
  ⟨⟨h1, h2, Int.le_refl _⟩, _, (by rw [bs_extract, Int.toNat_natCast, bs_size, List.take_length]), H⟩
theorem say_at {s : List UInt8} {n : Int} {k : UInt8 → Prop} (h : 0 ≤ n ∧ n < s.length) (H : k (s.getD n.toNat 0)) : ∃ b, (0 ≤ n ∧ (bs s)[n.toNat]? = some b) ∧ k b :=
  ⟨_, ⟨h.1, bs_get s _ (by omega)⟩, H⟩
theorem say_len {s : List UInt8} {k : Nat → Prop} (H : k s.length) : ∃ n : Nat, (bs s).size = n ∧ k n := ⟨_, bs_size s, H⟩
theorem say_seq {a b : List UInt8} {k : Bool → Prop} (H1 : a = b → k true) (H2 : a ≠ b → k false) : ∃ r, decide ((bs a).toList = (bs b).toList) = r ∧ k r := by
  rw [bs_toList, bs_toList]; exact say_d H1 H2
theorem say_sne {a b : List UInt8} {k : Bool → Prop} (H1 : a ≠ b → k true) (H2 : a = b → k false) : ∃ r, decide ((bs a).toList ≠ (bs b).toList) = r ∧ k r := by
  rw [bs_toList, bs_toList]; exact say_d H1 (fun h => H2 (Decidable.not_not.1 h))
theorem rd_up {h h' : Heap} {a : Addr} {v : Value} (e : ExtH h h') (r : rd h a = some v) : rd h' a = some v := (e.chg (S := fun _ => False)).rd r (fun e => e)
end Go.Proofs.YtkdmpdbbcgdfkaaGreatDoor.Vm
namespace Go.Proofs.YtkdmpdbbcgdfkaaGreatDoor.Vm
open Go
section
variable {P : Program} {all : List Oper} {o : Oper} {fr : Fr} {h : Heap}
theorem head_g {imp : Nat → Bool} {h0 : Heap} {L : Fr → Heap → Prop} {i : Nat} {p : List Nat} {v : Value} {j d : Nat} {b : Bool} (ho : all[i]? = some o) (hg : o.guard = some (j, b)) (hd : (all[j]?).bind (·.dst) = some d)
    (hl : lk fr d = some (.bool b)) (hi : imp i = false) (hq : quietOp P o = true)
    (hv : ∀ k : Value → Prop, k v → opq P o fr h0 k) (H : evH P all imp h0 L p (put fr o.dst v) h) : evH P all imp h0 L (i :: p) fr h := by
  unfold evH gk
  simp only [ho, hg, hi, hd, hl]
  have : opqc P o fr h0 (fun v => evH P all imp h0 L p (put fr o.dst v) h) := by
    unfold opqc
    rw [hq]
    exact hv _ H
  cases b <;> exact this
theorem head_skip {imp : Nat → Bool} {h0 : Heap} {L : Fr → Heap → Prop} {i : Nat} {p : List Nat} {j d : Nat} {b : Bool} (ho : all[i]? = some o) (hg : o.guard = some (j, b)) (hd : (all[j]?).bind (·.dst) = some d)
    (hl : lk fr d = some (.bool !b)) (H : evH P all imp h0 L p (put fr o.dst undef) h) : evH P all imp h0 L (i :: p) fr h := by
  unfold evH gk
  simp only [ho, hg, hd, hl]
  cases b <;> exact H
end
theorem Fx.q {P : Program} {f : FuncId} {args : Array Value} {h : Heap} {v : Value} (H : ∀ h1, ExtH h h1 → Fx P f args h1 fun u h' => u = v ∧ h' = h1) : FxQ P f args h v :=
  fun h1 x => (H h1 x).mono fun _ _ ⟨e, e'⟩ => ⟨e, e' ▸ ExtH.refl _⟩
end Go.Proofs.YtkdmpdbbcgdfkaaGreatDoor.Vm
namespace Go.Proofs.YtkdmpdbbcgdfkaaGreatDoor.Vm
open Go
section
variable {P : Program} {all : List Oper} {o : Oper} {fr : Fr} {h : Heap}
theorem ops_skipu {r : List Oper} {K : Fr → Heap → Prop} {j d : Nat} {b : Bool} {vs : Array Value} (hg : o.guard = some (j, b)) (hd : (all[j]?).bind (·.dst) = some d) (hl : lk fr d = some (.tuple vs)) (H : evOps P all r (put fr o.dst undef) h K) : evOps P all (o :: r) fr h K := by
  unfold evOps gk
  simp only [hg, hd, hl]
  exact H
theorem head_skipu {imp : Nat → Bool} {h0 : Heap} {L : Fr → Heap → Prop} {i : Nat} {p : List Nat} {j d : Nat} {b : Bool} {vs : Array Value} (ho : all[i]? = some o) (hg : o.guard = some (j, b)) (hd : (all[j]?).bind (·.dst) = some d)
    (hl : lk fr d = some (.tuple vs)) (H : evH P all imp h0 L p (put fr o.dst undef) h) : evH P all imp h0 L (i :: p) fr h := by
  unfold evH gk
  simp only [ho, hg, hd, hl]
  exact H
end
end Go.Proofs.YtkdmpdbbcgdfkaaGreatDoor.Vm
