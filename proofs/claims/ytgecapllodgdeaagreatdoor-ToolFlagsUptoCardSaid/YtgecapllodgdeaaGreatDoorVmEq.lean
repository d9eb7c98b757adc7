/-
  '==' of arrays of integers.
-/
import Derived.Test.YtgecapllodgdeaaGreatDoorVmSlice
import Derived.ChangeKeysEq
namespace Go.Proofs.YtgecapllodgdeaaGreatDoor.Vm
open Go
theorem run_eqItems_ints {P : Program} {e : TypeId} {kd kd' : IntKind} (hu : P.underlying e = some (.int kd')) (hp : P.plainKey e = true) (d : Nat) (la lb : List Int) (w : World) :
    ∀ is : List Nat, (∀ i ∈ is, i < la.length ∧ i < lb.length) → (Op.eqItems (d + 1) e 1 (la.map (Value.int kd)).toArray (lb.map (Value.int kd)).toArray is).run P w = .ok (is.all fun i => la.getD i 0 == lb.getD i 0) w
  | [], _ => by simp [Op.eqItems]
  | i :: is, hall => by
    obtain ⟨h1, h2⟩ := hall i (by simp)
    have e1 : ((la.map (Value.int kd)).toArray)[i * 1]? = some (.int kd (la.getD i 0)) := by simp [h1]
    have e2 : ((lb.map (Value.int kd)).toArray)[i * 1]? = some (.int kd (lb.getD i 0)) := by simp [h2]
    unfold Op.eqItems
    simp only [Sem.run_bind, run_part_plain w hp e1, run_part_plain w hp e2, Result.andThen_ok, run_equalIn_int w d e kd kd' _ _ hu]
    cases hc : (la.getD i 0 == lb.getD i 0) with
    | false => simp only [Bool.not_false, if_true, List.all_cons, hc, Bool.false_and]; rfl
    | true =>
      simp only [Bool.not_true, List.all_cons, hc, Bool.true_and]
      exact run_eqItems_ints hu hp d la lb w is (fun j hj => hall j (by simp [hj]))
theorem all_range_eq (n : Nat) (la lb : List Int) (h1 : la.length = n) (h2 : lb.length = n) : ((List.range n).all fun i => la.getD i 0 == lb.getD i 0) = decide (la = lb) := by
  by_cases h : la = lb
  · subst h
    simp
  · rw [decide_eq_false h]
    rw [Bool.eq_false_iff]
    intro hc
    refine h (List.ext_getElem? fun i => ?_)
    by_cases hi : i < n
    · have := List.all_eq_true.1 hc i (List.mem_range.2 hi)
      simp only [beq_iff_eq] at this
      rw [List.getElem?_eq_getElem (by omega), List.getElem?_eq_getElem (by omega)]
      rw [List.getD_eq_getElem?_getD, List.getD_eq_getElem?_getD, List.getElem?_eq_getElem (by omega), List.getElem?_eq_getElem (by omega)] at this
      simpa using this
    · rw [List.getElem?_eq_none (by omega), List.getElem?_eq_none (by omega)]
section
variable {P : Program} {t e : TypeId} {kd kd' : IntKind} {n : Nat} {i : TypeInfo} (ht : P.underlying t = some (.array n e)) (hu : P.underlying e = some (.int kd')) (hp : P.plainKey e = true) (hi : P.info? e = some i) (hc : P.cellsOf e = 1) (hg : P.eqGuardType P.depth t = false)
include ht hu hp hi hc hg
/-- two arrays of integers are the same -/
theorem run_eq_ints (xo yo : Operand) (la lb : List Int) (h1 : la.length = n) (h2 : lb.length = n) (w : World) :
    (do eqGuard .eql t xo yo (.agg (la.map (Value.int kd)).toArray) (.agg (lb.map (Value.int kd)).toArray); binOp .eql t (.agg (la.map (Value.int kd)).toArray) (.agg (lb.map (Value.int kd)).toArray) : Sem Value).run P w = .ok (.bool (decide (la = lb))) w := by
  have he : (Op.equal t (.agg (la.map (Value.int kd)).toArray) (.agg (lb.map (Value.int kd)).toArray)).run P w = .ok (decide (la = lb)) w := by
    unfold Op.equal
    rw [show Op.maxDepth = 9998 + 1 + 1 from rfl, run_equalIn_array (P := P) w (9998 + 1) _ _ ht hi, hc, run_eqItems_ints hu hp 9998 la lb w _ (fun i hi => by rw [List.mem_range] at hi; omega), all_range_eq n la lb h1 h2]
  have hgd : (eqGuard .eql t xo yo (.agg (la.map (Value.int kd)).toArray) (.agg (lb.map (Value.int kd)).toArray)).run P w = .ok () w := by
    simp [eqGuard, hg]
  rw [Sem.run_bind, hgd]
  simp [binOp, he]
theorem run_ne_ints (xo yo : Operand) (la lb : List Int) (h1 : la.length = n) (h2 : lb.length = n) (w : World) :
    (do eqGuard .neq t xo yo (.agg (la.map (Value.int kd)).toArray) (.agg (lb.map (Value.int kd)).toArray); binOp .neq t (.agg (la.map (Value.int kd)).toArray) (.agg (lb.map (Value.int kd)).toArray) : Sem Value).run P w = .ok (.bool (!decide (la = lb))) w := by
  have he : (Op.equal t (.agg (la.map (Value.int kd)).toArray) (.agg (lb.map (Value.int kd)).toArray)).run P w = .ok (decide (la = lb)) w := by
    unfold Op.equal
    rw [show Op.maxDepth = 9998 + 1 + 1 from rfl, run_equalIn_array (P := P) w (9998 + 1) _ _ ht hi, hc, run_eqItems_ints hu hp 9998 la lb w _ (fun i hi => by rw [List.mem_range] at hi; omega), all_range_eq n la lb h1 h2]
  have hgd : (eqGuard .neq t xo yo (.agg (la.map (Value.int kd)).toArray) (.agg (lb.map (Value.int kd)).toArray)).run P w = .ok () w := by
    simp [eqGuard, hg]
  rw [Sem.run_bind, hgd]
  simp [binOp, he]
end
section
variable {P : Program} {n : Nat} {Q : Exit → Fr → Heap → Prop} {fr : Fr} {h : Heap} {c : Operand} {x y : Code}
theorem cw_bne_yes {a b : Int} (hc : ev fr c = some (.bool (a != b))) (hp : a ≠ b) (H : Cw P n x Q fr h) : Cw P n (.cond c x y) Q fr h := cw_true (by rw [hc]; simp [hp]) H
theorem cw_bne_no {a b : Int} (hc : ev fr c = some (.bool (a != b))) (hp : a = b) (H : Cw P n y Q fr h) : Cw P n (.cond c x y) Q fr h := cw_false (by rw [hc]; simp [hp]) H
theorem cw_beq_yes {a b : Int} (hc : ev fr c = some (.bool (a == b))) (hp : a = b) (H : Cw P n x Q fr h) : Cw P n (.cond c x y) Q fr h := cw_true (by rw [hc]; simp [hp]) H
theorem cw_beq_no {a b : Int} (hc : ev fr c = some (.bool (a == b))) (hp : a ≠ b) (H : Cw P n y Q fr h) : Cw P n (.cond c x y) Q fr h := cw_false (by rw [hc]; simp [hp]) H
end
section
variable {P : Program} {all : List Oper} {o : Oper} {r : List Oper} {fr : Fr} {h : Heap} {K : Fr → Heap → Prop}
/-- one operation that only reads, with the value that we say -/
theorem ops_q {v : Value} (hg : o.guard = none) (hq : quietOp P o = true) (hv : ∀ k : Value → Prop, k v → opq P o fr h k) (H : evOps P all r (put fr o.dst v) h K) : evOps P all (o :: r) fr h K := by
  unfold evOps gk
  rw [hg]
  simp only []
  unfold opx
  rw [hq]
  exact hv _ H
/-- the same, of an operation that is carried out where slot d says so -/
theorem ops_g {v : Value} {j d : Nat} {b : Bool} (hg : o.guard = some (j, b)) (hd : (all[j]?).bind (·.dst) = some d) (hl : lk fr d = some (.bool b)) (hq : quietOp P o = true) (hv : ∀ k : Value → Prop, k v → opq P o fr h k)
    (H : evOps P all r (put fr o.dst v) h K) : evOps P all (o :: r) fr h K := by
  unfold evOps gk
  rw [hg]
  simp only [hd, hl]
  have : opx P o fr h (fun v h' => evOps P all r (put fr o.dst v) h' K) := by
    unfold opx
    rw [hq]
    exact hv _ H
  cases b <;> exact this
/-- an operation that is passed over -/
theorem ops_skip {j d : Nat} {b : Bool} (hg : o.guard = some (j, b)) (hd : (all[j]?).bind (·.dst) = some d) (hl : lk fr d = some (.bool !b)) (H : evOps P all r (put fr o.dst undef) h K) : evOps P all (o :: r) fr h K := by
  unfold evOps gk
  rw [hg]
  simp only [hd, hl]
  cases b <;> exact H
theorem head_q {imp : Nat → Bool} {h0 : Heap} {L : Fr → Heap → Prop} {i : Nat} {p : List Nat} {v : Value} (ho : all[i]? = some o) (hg : o.guard = none) (hi : imp i = false) (hq : quietOp P o = true)
    (hv : ∀ k : Value → Prop, k v → opq P o fr h0 k) (H : evH P all imp h0 L p (put fr o.dst v) h) : evH P all imp h0 L (i :: p) fr h := by
  unfold evH gk
  simp only [ho, hg, hi]
  unfold opqc
  rw [hq]
  exact hv _ H
end
end Go.Proofs.YtgecapllodgdeaaGreatDoor.Vm
