/-
  A hash and the document's state beside it; two of them.
-/
import Derived.Test.YtnjimdjojinffaaDoorShaRefOf
import Derived.Test.YtnjimdjojinffaaDoorShaSame
import Derived.Test.YtnjimdjojinffaaDoorShaLong
import Derived.Test.YtnjimdjojinffaaDoorVmTree
namespace Go.Proofs.YtnjimdjojinffaaDoor
open Go Vm
set_option maxRecDepth 100000
structure HI where
  p : Nat
  v : Value
  s : Sha.S8
  l : List UInt8
  n : Nat
  b : Value
def stI (X : HI) : List Value := stateC X.s X.b X.n
def pairC (f : Nat → HI) (i : Nat) : List Value := .pointer (some ⟨(f 0).p, 0, none⟩) :: .pointer (some ⟨(f 1).p, 0, none⟩) :: (stI (f 0) ++ (stI (f 1) ++ [.int .i64 (i : Int)]))
def upd (f : Nat → HI) (j : Nat) (X : HI) : Nat → HI := fun i => if i = j then X else f i
theorem upd_same (f : Nat → HI) (j : Nat) (X : HI) : upd f j X j = X := by simp [upd]
theorem upd_other (f : Nat → HI) {i j : Nat} (X : HI) (h : i ≠ j) : upd f j X i = f i := by simp [upd, h]
theorem two {i : Nat} (h : i < 2) : i = 0 ∨ i = 1 := by omega
theorem pair_n (f : Nat → HI) (i : Nat) : (pairC f i)[22]? = some (.int .i64 (i : Int)) := rfl
theorem pair_ptr (f : Nat → HI) (i j : Nat) (h : j < 2) : (pairC f i)[j]? = some (.pointer (some ⟨(f j).p, 0, none⟩)) := by
  rcases two h with rfl | rfl <;> rfl
theorem pair_st (f : Nat → HI) (i j : Nat) (h : j < 2) : ∀ (t : Nat) (v : Value), (stI (f j))[t]? = some v → (pairC f i)[2 + j * 10 + t]? = some v := by
  intro t v ht
  have hl : t < 10 := by have := (List.getElem?_eq_some_iff.1 ht).1; simpa [stI, stateC] using this
  have : t = 0 ∨ t = 1 ∨ t = 2 ∨ t = 3 ∨ t = 4 ∨ t = 5 ∨ t = 6 ∨ t = 7 ∨ t = 8 ∨ t = 9 := by omega
  rcases two h with rfl | rfl <;> rcases this with rfl | rfl | rfl | rfl | rfl | rfl | rfl | rfl | rfl | rfl <;> exact ht
theorem pair_rdN {h : Heap} {b : Nat} {f : Nat → HI} {i j : Nat} {t : TypeId} (y : Blk h b (pairC f i) t) (hj : j < 2) : rdN h b (2 + j * 10) (stI (f j)) := fun k v hk => y.rd (pair_st f i j hj k v hk)
theorem pair_at {h : Heap} {b o : Nat} {f : Nat → HI} {i j : Nat} {t : TypeId} (y : Blk h b (pairC f i) t) (hj : j < 2) (ho : o = 2 + j * 10) : rdN h b o (stI (f j)) := ho ▸ pair_rdN y hj
theorem pair_splice (f : Nat → HI) (i j : Nat) (X : HI) (h : j < 2) (hX : X.p = (f j).p) : splice (pairC f i) (2 + j * 10) (stI X) = pairC (upd f j X) i := by
  rcases two h with rfl | rfl
  · simp [pairC, upd, hX, splice, stI, stateC]
  · simp [pairC, upd, hX, splice, stI, stateC]
theorem pair_set (f : Nat → HI) (i j q : Nat) (h : j < 2) : (pairC f i).set j (.pointer (some ⟨q, 0, none⟩)) = pairC (upd f j { f j with p := q }) i := by
  rcases two h with rfl | rfl
  · simp [pairC, upd, stI, stateC]
  · simp [pairC, upd, stI, stateC]
theorem pair_setn (f : Nat → HI) (i k : Nat) : (pairC f i).set 22 (.int .i64 (k : Int)) = pairC f k := rfl
theorem upd_upd (f : Nat → HI) (j : Nat) (X Y : HI) : upd (upd f j X) j Y = upd f j Y := by
  funext i
  unfold upd
  split <;> rfl
theorem stI_one (X : HI) (hv : X.b.oneCell' = true) : ∀ x ∈ stI X, x.oneCell' = true := by
  intro x hx
  exact stateC_one X.s X.b X.n hv x (by simpa [stI] using hx)
theorem pairC_one (f : Nat → HI) (i : Nat) (h0 : (f 0).b.oneCell' = true) (h1 : (f 1).b.oneCell' = true) : ∀ x ∈ pairC f i, x.oneCell' = true := by
  intro x hx
  simp only [pairC, List.mem_cons, List.mem_append, List.not_mem_nil, or_false] at hx
  rcases hx with rfl | rfl | hx | hx | rfl
  · rfl
  · rfl
  · exact stI_one _ h0 x hx
  · exact stI_one _ h1 x hx
  · rfl
theorem OB.one {h : Heap} {v : Value} {l : List UInt8} (o : OB h v l) : v.oneCell' = true := by
  obtain ⟨a, k, e⟩ := o.r.len
  subst e
  rfl
structure HOK (base : Nat) (h : Heap) (X : HI) : Prop where
  hash : HashAt h X.p X.v X.s X.l X.n
  own : OB h X.b X.l
  len : X.l.length = X.n % 64
  max : X.n ≤ 2305843009213693951
  lp : base ≤ X.p
  lv : ∀ k, ob X.v k → base ≤ k
  lb : ∀ k, ob X.b k → base ≤ k
theorem HOK.keep {base : Nat} {S : Nat → Prop} {h h' : Heap} {X : HI} (H : HOK base h X) (c : Chg S h h') (hp : ¬ S X.p) (hv : ∀ k, ob X.v k → ¬ S k) (hb : ∀ k, ob X.b k → ¬ S k) : HOK base h' X :=
  ⟨H.hash.keep c hp hv, OwnS.keep H.own c hb, H.len, H.max, H.lp, H.lv, H.lb⟩
structure PInv (base : Nat) (h : Heap) (f : Nat → HI) : Prop where
  ok : ∀ j, j < 2 → HOK base h (f j)
  apart : ∀ i j, i < 2 → j < 2 → i ≠ j → (f i).p ≠ (f j).p ∧ ∀ k, ob (f i).v k → ¬ ob (f j).v k
  buf : ∀ i j, i < 2 → j < 2 → ∀ k, ob (f i).b k → ¬ ob (f j).v k
theorem PInv.more {base : Nat} {h h' : Heap} {f : Nat → HI} (I : PInv base h f) (x : ExtH h h') : PInv base h' f :=
  ⟨fun j hj => (I.ok j hj).keep (x.chg (S := fun _ => False)) (fun e => e) (fun _ _ e => e) (fun _ _ e => e), I.apart, I.buf⟩
theorem PInv.put {base : Nat} {h h' : Heap} {f : Nat → HI} {i : Nat} (I : PInv base h f) (hi : i < 2) (c : Chg (fun k => k = (f i).p ∨ ob (f i).v k) h h') (X : HI) (hX : HOK base h' X) (hp : X.p = (f i).p)
    (hv : ∀ k, ob X.v k → ob (f i).v k ∨ h.size ≤ k) (hb : ∀ k, ob X.b k → ¬ ob X.v k) (hb2 : ∀ j, j < 2 → j ≠ i → ∀ k, ob X.b k → ¬ ob (f j).v k) : PInv base h' (upd f i X) := by
  have other : ∀ j, j < 2 → j ≠ i → HOK base h' (f j) := fun j hj hji => by
    have a := I.ok j hj
    have b := I.ok i hi
    obtain ⟨a1, a2⟩ := I.apart j i hj hi hji
    refine a.keep c (fun e => e.elim a1 (fun e => OwnS.ne b.hash.own a.hash.blk (by decide) e)) (fun k hk e => e.elim (fun e => OwnS.ne a.hash.own b.hash.blk (by decide) (e ▸ hk)) (fun e => a2 k hk e))
      (fun k hk e => e.elim (fun e => OwnS.ne a.own b.hash.blk (by decide) (e ▸ hk)) (fun e => I.buf j i hj hi k hk e))
  have ltv : ∀ j, j < 2 → ∀ k, ob (f j).v k → k < h.size := fun j hj k hk => OwnS.lt (I.ok j hj).hash.own hk
  have ltb : ∀ j, j < 2 → ∀ k, ob (f j).b k → k < h.size := fun j hj k hk => OwnS.lt (I.ok j hj).own hk
  refine ⟨fun j hj => ?_, fun a b ha hb' hab => ?_, fun a b ha hb' k hk => ?_⟩
  · by_cases hji : j = i
    · subst hji; rw [upd_same]; exact hX
    · rw [upd_other f X hji]; exact other j hj hji
  · by_cases hai : a = i
    · subst hai
      rw [upd_same, upd_other f X (fun e => hab e.symm)]
      obtain ⟨a1, a2⟩ := I.apart a b ha hb' hab
      refine ⟨by rw [hp]; exact a1, fun k hk e => (hv k hk).elim (fun e' => a2 k e' e) (fun e' => by have := ltv b hb' k e; omega)⟩
    · rw [upd_other f X hai]
      by_cases hbi : b = i
      · subst hbi
        rw [upd_same]
        obtain ⟨a1, a2⟩ := I.apart a b ha hb' hab
        refine ⟨by rw [hp]; exact a1, fun k hk e => (hv k e).elim (fun e' => a2 k hk e') (fun e' => by have := ltv a ha k hk; omega)⟩
      · rw [upd_other f X hbi]; exact I.apart a b ha hb' hab
  · by_cases hai : a = i
    · subst hai
      rw [upd_same] at hk
      by_cases hbi : b = a
      · subst hbi; rw [upd_same]; exact hb k hk
      · rw [upd_other f X hbi]; exact hb2 b hb' hbi k hk
    · rw [upd_other f X hai] at hk
      by_cases hbi : b = i
      · subst hbi
        rw [upd_same]
        exact fun e => (hv k e).elim (fun e' => I.buf a b ha hb' k hk e') (fun e' => by have := ltb a ha k hk; omega)
      · rw [upd_other f X hbi]; exact I.buf a b ha hb' k hk
theorem PInv.clone {base : Nat} {h h' : Heap} {f : Nat → HI} {i j : Nat} (I : PInv base h f) (hi : i < 2) (hj : j < 2) (hij : i ≠ j) (x : ExtH h h') (X : HI) (hX : HOK base h' X) (hp : h.size ≤ X.p)
    (hv : ∀ k, ob X.v k → h.size ≤ k) (hb : X.b = (f i).b) : PInv base h' (upd f j X) := by
  have J := I.more x
  have ltv : ∀ j, j < 2 → ∀ k, ob (f j).v k → k < h.size := fun j hj k hk => OwnS.lt (I.ok j hj).hash.own hk
  have ltb : ∀ j, j < 2 → ∀ k, ob (f j).b k → k < h.size := fun j hj k hk => OwnS.lt (I.ok j hj).own hk
  have ltp : ∀ j, j < 2 → (f j).p < h.size := fun j hj => (I.ok j hj).hash.blk.lt
  have only : ∀ a, a < 2 → a ≠ j → a = i := fun a ha hne => by omega
  refine ⟨fun a ha => ?_, fun a b ha hb' hab => ?_, fun a b ha hb' k hk => ?_⟩
  · by_cases haj : a = j
    · subst haj; rw [upd_same]; exact hX
    · rw [upd_other f X haj]; exact J.ok a ha
  · by_cases haj : a = j
    · subst haj
      have := only b hb' (fun e => hab e.symm)
      subst this
      rw [upd_same, upd_other f X hij]
      exact ⟨by have := ltp b hi; omega, fun k hk e => by have := hv k hk; have := ltv b hi k e; omega⟩
    · have := only a ha haj
      subst this
      rw [upd_other f X haj]
      by_cases hbj : b = j
      · subst hbj
        rw [upd_same]
        exact ⟨by have := ltp a hi; omega, fun k hk e => by have := hv k e; have := ltv a hi k hk; omega⟩
      · exact absurd (only b hb' hbj) (fun e => hab e.symm)
  · have hk' : ob (f i).b k := by
      by_cases haj : a = j
      · subst haj; rw [upd_same, hb] at hk; exact hk
      · have := only a ha haj
        subst this
        rwa [upd_other f X haj] at hk
    by_cases hbj : b = j
    · subst hbj
      rw [upd_same]
      exact fun e => by have := hv k e; have := ltb i hi k hk'; omega
    · have := only b hb' hbj
      subst this
      rw [upd_other f X hbj]
      exact I.buf b b hi hi k hk'
theorem Tab.old {base : Nat} {h h' : Heap} (T : Tab h) (h0 : 0 < base) (x : ∀ b, b < base → h'[b]? = h[b]?) : Tab h' := fun j v hj => by
  have := T j v hj
  unfold Vm.rd at *
  rw [x 0 h0]
  exact this
/-! ### the document's Write and Load; package sha's Load where it refuses -/
theorem rwrite_yes {D : Nat → Prop} {h : Heap} {s : Sha.S8} {v x : Value} {l : List UInt8} {n : Nat} {ms : List (List UInt8)} {pv : List Value} (T : Tab h) (hb : RB h v l) (hx : PD D h x ms pv) (hl : l.length < 64)
    (hms : ms.flatten.length ≤ 10000000000000) (hn : n + ms.flatten.length ≤ 2305843009213693951) :
    Fx Tryd.prog 47 #[.agg (stateC s v n).toArray, x] h fun u h' => ∃ v', u = .tuple #[.agg (stateC (Sha.feed s (l ++ ms.flatten)) v' (n + ms.flatten.length)).toArray, .int .i64 0] ∧
      OB h' v' (Sha.rest (l ++ ms.flatten)) ∧ ExtH h h' ∧ ∀ b, ob v' b → h.size ≤ b := by
  refine fn_of 20 Tryd.func47 rfl (by kernel_rfl) rfl (by simp) ?_
  refine cw_seq (cw_region rfl ?_)
  conv => whnf
  intro h1 n1
  conv => whnf
  intro h2 n2
  have y1 : Blk h2 h.size (stateC s v n) 43 := n2.ext.blk n1.blk
  have y2 : Blk h2 h1.size (stateC ⟨0, 0, 0, 0, 0, 0, 0, 0⟩ (.slice none 0 0) 0) 43 := n2.blk
  have z1 := n1.size; have z2 := n2.size
  have x2 := n1.ext.trans n2.ext
  clear n1 n2
  generalize hh1 : h1.size = b1 at *
  refine cw_seq (cw_region rfl ?_)
  conv => whnf
  refine ⟨_, rfl, _, joined_fn (hx.keep (x2.chg (S := fun _ => False)) (fun _ _ e => e)) (by omega), ?_⟩
  rintro v3 h3 ⟨o3, x3, f3⟩
  have z3 := x3.size
  obtain ⟨a3, k3, e3⟩ := o3.r.len
  subst e3
  refine cw_seq (cw_seq (cw_region rfl ?_))
  conv => whnf
  refine ⟨_, (x3.blk y1).rd (o := 9) rfl, ?_⟩
  have e1 := u64_in (ms.flatten.length : Int) ms.flatten.length rfl (by omega)
  have e2 := u64_in (2305843009213693951 - ((n : Nat) : Int)) (2305843009213693951 - n) (by omega) (by omega)
  conv => whnf
  refine cw_no rfl (by omega) (cw_skip ?_)
  refine cw_seq (cw_region rfl ?_)
  conv => whnf
  refine ⟨_, by rfl, (x3.blk y1).all, ?_⟩
  conv => whnf
  refine ⟨_, rfl, _, rtaken_fn (T.more (x2.trans x3)) (hb.more (x2.trans x3)) o3.r (by omega) (by omega), ?_⟩
  rintro _ h4 ⟨v4, rfl, o4, x4, f4⟩
  have z4 := x4.size
  conv => whnf
  refine ⟨_, _, x4.blk (x3.blk y2), ⟨(show (10 : Nat) ≤ 10 by decide), by rfl, stateC_one _ _ _ (OB.one o4)⟩, ?_⟩
  intro h5 w5
  replace w5 := w5.cast (l' := stateC (Sha.feed s (l ++ ms.flatten)) v4 (n + ms.flatten.length)) (by rfl)
  have z5 := w5.size
  refine cw_ret ?_
  conv => whnf
  refine ⟨_, by rfl, w5.new.all, ?_⟩
  exact ⟨v4, rfl, OwnS.keep o4 w5.chg (fun b hb e => by have := f4 b hb; omega), ⟨by omega, fun b hb => by rw [w5.block b (by omega), x4.block b (by omega), x3.block b (by omega), x2.block b hb]⟩, fun b hb => by have := f4 b hb; omega⟩
theorem rwrite_no {D : Nat → Prop} {h : Heap} {s : Sha.S8} {v x : Value} {n : Nat} {ms : List (List UInt8)} {pv : List Value} (hv : v.oneCell' = true) (hx : PD D h x ms pv)
    (hms : ms.flatten.length ≤ 10000000000000) (hn0 : n ≤ 2305843009213693951) (hn : 2305843009213693951 < n + ms.flatten.length) :
    Fx Tryd.prog 47 #[.agg (stateC s v n).toArray, x] h fun u h' => u = .tuple #[.agg (stateC s v n).toArray, .int .i64 21] ∧ ExtH h h' := by
  refine fn_of 20 Tryd.func47 rfl (by kernel_rfl) rfl (by simp) ?_
  refine cw_seq (cw_region rfl ?_)
  conv => whnf
  intro h1 n1
  conv => whnf
  intro h2 n2
  have y1 : Blk h2 h.size (stateC s v n) 43 := n2.ext.blk n1.blk
  have y2 : Blk h2 h1.size (stateC ⟨0, 0, 0, 0, 0, 0, 0, 0⟩ (.slice none 0 0) 0) 43 := n2.blk
  have z1 := n1.size; have z2 := n2.size
  have x2 := n1.ext.trans n2.ext
  clear n1 n2
  generalize hh1 : h1.size = b1 at *
  refine cw_seq (cw_region rfl ?_)
  conv => whnf
  refine ⟨_, rfl, _, joined_fn (hx.keep (x2.chg (S := fun _ => False)) (fun _ _ e => e)) (by omega), ?_⟩
  rintro v3 h3 ⟨o3, x3, f3⟩
  have z3 := x3.size
  obtain ⟨a3, k3, e3⟩ := o3.r.len
  subst e3
  refine cw_seq (cw_seq (cw_region rfl ?_))
  conv => whnf
  refine ⟨_, (x3.blk y1).rd (o := 9) rfl, ?_⟩
  have e1 := u64_in (ms.flatten.length : Int) ms.flatten.length rfl (by omega)
  have e2 := u64_in (2305843009213693951 - ((n : Nat) : Int)) (2305843009213693951 - n) (by omega) (by omega)
  conv => whnf
  refine cw_yes rfl (by omega) ?_
  refine cw_seq (cw_region rfl ?_)
  conv => whnf
  refine ⟨_, by rfl, (x3.blk y1).all, ?_⟩
  conv => whnf
  refine ⟨_, _, x3.blk y2, ⟨(show (10 : Nat) ≤ 10 by decide), by rfl, stateC_one _ _ _ hv⟩, ?_⟩
  intro h5 w5
  replace w5 := w5.cast (l' := stateC s v n) (by rfl)
  have z5 := w5.size
  refine cw_ret ?_
  conv => whnf
  exact ⟨_, by rfl, w5.new.all, rfl, ⟨by omega, fun b hb => by rw [w5.block b (by omega), x3.block b (by omega), x2.block b hb]⟩⟩
/-- what a hash is behind a write: taken, or refused -/
def wAfter (s : Sha.S8) (l : List UInt8) (n : Nat) (m : List UInt8) : Sha.S8 × List UInt8 × Nat × Int :=
  if n + m.length ≤ 2305843009213693951 then (Sha.feed s (l ++ m), Sha.rest (l ++ m), n + m.length, 0) else (s, l, n, 21)
theorem wAfter_ok {s : Sha.S8} {l : List UInt8} {n : Nat} (m : List UInt8) (hl : l.length = n % 64) (hn : n ≤ 2305843009213693951) : (wAfter s l n m).2.1.length = (wAfter s l n m).2.2.1 % 64 ∧ (wAfter s l n m).2.2.1 ≤ 2305843009213693951 := by
  unfold wAfter
  split
  · rename_i h
    refine ⟨?_, h⟩
    show (Sha.rest (l ++ m)).length = (n + m.length) % 64
    rw [Sha.rest_length, List.length_append, hl]
    omega
  · exact ⟨hl, hn⟩
theorem write_any {D : Nat → Prop} {h : Heap} {p : Nat} {v x : Value} {s : Sha.S8} {l : List UInt8} {n : Nat} {ms : List (List UInt8)} {pv : List Value} (H : HashAt h p v s l n) (hx : PD D h x ms pv)
    (hD : ∀ b, D b → b < h.size ∧ b ≠ p ∧ ¬ ob v b) (hl : l.length < 64) (hms : ms.flatten.length ≤ 10000000000000) (hn : n ≤ 2305843009213693951) :
    Fx Tryd.prog 22 #[.pointer (some ⟨p, 0, none⟩), x] h fun u h' => u = .int .i64 (wAfter s l n ms.flatten).2.2.2 ∧ ∃ v', HashAt h' p v' (wAfter s l n ms.flatten).1 (wAfter s l n ms.flatten).2.1 (wAfter s l n ms.flatten).2.2.1 ∧
      Chg (fun b => b = p ∨ ob v b) h h' ∧ ∀ b, ob v' b → ob v b ∨ h.size ≤ b := by
  unfold wAfter
  by_cases hc : n + ms.flatten.length ≤ 2305843009213693951
  · rw [if_pos hc]
    exact write_fn H hx hD hl (by omega) hc
  · rw [if_neg hc]
    refine (write_long H hx (by omega) hn (by omega)).mono ?_
    rintro _ h' ⟨rfl, rfl⟩
    exact ⟨rfl, v, H, ⟨Nat.le_refl _, fun _ _ _ => rfl⟩, fun b hb => .inl hb⟩
theorem rwrite_any {D : Nat → Prop} {h : Heap} {s : Sha.S8} {v x : Value} {l : List UInt8} {n : Nat} {ms : List (List UInt8)} {pv : List Value} (T : Tab h) (hb : OB h v l) (hx : PD D h x ms pv) (hl : l.length < 64)
    (hms : ms.flatten.length ≤ 10000000000000) (hn : n ≤ 2305843009213693951) :
    Fx Tryd.prog 47 #[.agg (stateC s v n).toArray, x] h fun u h' => ∃ v', u = .tuple #[.agg (stateC (wAfter s l n ms.flatten).1 v' (wAfter s l n ms.flatten).2.2.1).toArray, .int .i64 (wAfter s l n ms.flatten).2.2.2] ∧
      OB h' v' (wAfter s l n ms.flatten).2.1 ∧ ExtH h h' ∧ ∀ b, ob v' b → ob v b ∨ h.size ≤ b := by
  unfold wAfter
  by_cases hc : n + ms.flatten.length ≤ 2305843009213693951
  · rw [if_pos hc]
    refine (rwrite_yes T hb.r hx hl hms hc).mono ?_
    rintro _ h' ⟨v', rfl, o, e, f⟩
    exact ⟨v', rfl, o, e, fun b hb => .inr (f b hb)⟩
  · rw [if_neg hc]
    refine (rwrite_no (OB.one hb) hx hms hn (by omega)).mono ?_
    rintro _ h' ⟨rfl, e⟩
    exact ⟨v, rfl, OwnS.more hb e, e, fun b hb => .inl hb⟩
theorem ExtP.chg {K : Nat → Prop} {h h' : Heap} (e : ExtP K h h') : Chg (fun b => ¬ K b) h h' := ⟨e.size, fun b hb hn => e.block b (Classical.not_not.1 hn) hb⟩
theorem ExtP.blk {K : Nat → Prop} {h h' : Heap} (e : ExtP K h h') {b : Nat} {l : List Value} {t : TypeId} (hb : Blk h b l t) (hK : K b) : Blk h' b l t := (e.block b hK hb.lt).trans hb
theorem OwnP.keep {lo : Nat} {S : Nat → Prop} {h h' : Heap} {x : Value} {ms : List (List UInt8)} {qv : List Value} (H : OwnP lo h x ms qv) (c : Chg S h h') (hS : ∀ b, lo ≤ b → ¬ S b) : OwnP lo h' x ms qv :=
  ⟨OwnS.keep H.own c (fun b hb => hS b (H.above b hb)), H.above, fun i m hi => by
    obtain ⟨v, h1, h2, h3⟩ := H.part i m hi
    exact ⟨v, h1, OwnS.keep h2 c (fun b hb => hS b (h3 b hb)), h3⟩⟩
theorem blk_ne {h : Heap} {b c : Nat} {l m : List Value} {t u : TypeId} (hb : Blk h b l t) (hc : Blk h c m u) (ht : t ≠ u) : b ≠ c := by
  rintro rfl
  unfold Blk at hb hc
  rw [hb] at hc
  injection hc with hc
  injection hc with _ h2
  exact ht h2
theorem PInv.wrote {base : Nat} {h h' : Heap} {f : Nat → HI} {r : Nat} {l l' : List Value} {t t' : TypeId} (I : PInv base h f) (w : Wrote h h' r l' t') (y : Blk h r l t) (h1 : t ≠ 5) (h2 : t ≠ 60) : PInv base h' f :=
  ⟨fun j hj => (I.ok j hj).keep w.chg (fun e => blk_ne y (I.ok j hj).hash.blk h2 e.symm) (fun k hk e => OwnS.ne (I.ok j hj).hash.own y h1 (e ▸ hk)) (fun k hk e => OwnS.ne (I.ok j hj).own y h1 (e ▸ hk)), I.apart, I.buf⟩
end Go.Proofs.YtnjimdjojinffaaDoor
