/-
  Two pools and the document's two beside them.
-/
import Derived.Test.YtcmjgkjnnmfijaaPoolClone
namespace Go.Proofs.Ytcmjgkjnnmfijaa
open Go Vm
set_option maxRecDepth 100000
set_option linter.unusedVariables false
set_option linter.unusedSimpArgs false
theorem ExtP.rdN' {K : Nat → Prop} {h h' : Heap} (e : ExtP K h h') {b o : Nat} {vs : List Value} (r : rdN h b o vs) (hK : K b) : rdN h' b o vs := fun j v hj => by
  have h1 := r j v hj
  have h2 := e.block b hK (rd_lt h1)
  unfold Vm.rd at *
  rw [h2]
  exact h1
/-- a pool and the document's: where it lies, its list, the document's list, the workers of both -/
structure Sd where
  p : Nat
  v : Value
  wv : Value
  ws : List Wk
  rs : List Wk
def upd (s : Nat → Sd) (n : Nat) (x : Sd) : Nat → Sd := fun k => if k = n then x else s k
theorem upd_same (s : Nat → Sd) (n : Nat) (x : Sd) : upd s n x n = x := if_pos rfl
theorem upd_ne (s : Nat → Sd) {n k : Nat} (x : Sd) (h : k ≠ n) : upd s n x k = s k := if_neg h
theorem upd_case (s : Nat → Sd) (n : Nat) (x : Sd) (k : Nat) : (k = n ∧ upd s n x k = x) ∨ (k ≠ n ∧ upd s n x k = s k) := by
  by_cases h : k = n
  · exact .inl ⟨h, if_pos h⟩
  · exact .inr ⟨h, if_neg h⟩
def pt (p : Nat) : Value := .pointer (some ⟨p, 0, none⟩)
structure Duo (h0 h : Heap) (a9 a10 : Nat) (wk sl id : Int) (s : Nat → Sd) : Prop where
  N : ∀ k, k < 2 → PoolNew h0 h (s k).p (s k).v wk sl id (s k).ws
  I : ∀ k, k < 2 → Inv wk sl id (s k).ws
  O : ∀ k, k < 2 → OW h (s k).wv (s k).rs
  w0 : ∀ k, k < 2 → ∀ b, ob (s k).wv b → h0.size ≤ b
  wv : ∀ j, j < 2 → ∀ k, k < 2 → ∀ b, ob (s j).wv b → ¬ ob (s k).v b
  pp : ∀ j, j < 2 → ∀ k, k < 2 → j ≠ k → (s j).p ≠ (s k).p
  vv : ∀ j, j < 2 → ∀ k, k < 2 → j ≠ k → ∀ b, ob (s j).v b → ¬ ob (s k).v b
  A9 : Blk h a9 [pt (s 0).p, pt (s 1).p] 66
  A10 : Blk h a10 (refC wk sl id (s 0).wv ++ refC wk sl id (s 1).wv) 67
  z9 : h0.size ≤ a9
  z10 : h0.size ≤ a10
section
variable {h0 h h' : Heap} {a9 a10 : Nat} {wk sl id : Int} {s : Nat → Sd}
theorem Duo.more (D : Duo h0 h a9 a10 wk sl id s) (e : ExtH h h') : Duo h0 h' a9 a10 wk sl id s :=
  ⟨fun k hk => (D.N k hk).more e, D.I, fun k hk => (D.O k hk).more e, D.w0, D.wv, D.pp, D.vv, e.blk D.A9, e.blk D.A10, D.z9, D.z10⟩
theorem Duo.r9 (D : Duo h0 h a9 a10 wk sl id s) {n : Nat} (hn : n < 2) : rd h ⟨a9, n, none⟩ = some (pt (s n).p) := by
  obtain rfl | rfl : n = 0 ∨ n = 1 := by omega
  · exact D.A9.rd (o := 0) rfl
  · exact D.A9.rd (o := 1) rfl
theorem Duo.r10 (D : Duo h0 h a9 a10 wk sl id s) {n : Nat} (hn : n < 2) : rdN h a10 (n * 4) (refC wk sl id (s n).wv) := by
  obtain rfl | rfl : n = 0 ∨ n = 1 := by omega
  · exact D.A10.rdN 0 (refC wk sl id (s 0).wv) rfl
  · exact D.A10.rdN 4 (refC wk sl id (s 1).wv) rfl
/-- the pool n is turned -/
theorem Duo.turn (D : Duo h0 h a9 a10 wk sl id s) {n : Nat} (hn : n < 2) {v' : Value} {ws' : List Wk} (A' : PoolAt h' (s n).p v' wk sl id ws') (t : Turned h h' (s n).p (s n).v v') (I' : Inv wk sl id ws') :
    Duo h0 h' a9 a10 wk sl id (upd s n { s n with v := v', ws := ws' }) := by
  have n9 : ¬ (a9 = (s n).p ∨ ob (s n).v a9) := fun e => e.elim (blk_apart D.A9 (D.N n hn).at_.blk (by decide)) (OwnS.ne (D.N n hn).at_.own D.A9 (by decide))
  have n10 : ¬ (a10 = (s n).p ∨ ob (s n).v a10) := fun e => e.elim (blk_apart D.A10 (D.N n hn).at_.blk (by decide)) (OwnS.ne (D.N n hn).at_.own D.A10 (by decide))
  have hp : ∀ k, (upd s n { s n with v := v', ws := ws' } k).p = (s k).p := fun k => by
    rcases upd_case s n { s n with v := v', ws := ws' } k with ⟨rfl, e⟩ | ⟨_, e⟩ <;> rw [e]
  have hw : ∀ k, (upd s n { s n with v := v', ws := ws' } k).wv = (s k).wv := fun k => by
    rcases upd_case s n { s n with v := v', ws := ws' } k with ⟨rfl, e⟩ | ⟨_, e⟩ <;> rw [e]
  have hr : ∀ k, (upd s n { s n with v := v', ws := ws' } k).rs = (s k).rs := fun k => by
    rcases upd_case s n { s n with v := v', ws := ws' } k with ⟨rfl, e⟩ | ⟨_, e⟩ <;> rw [e]
  have ext : ExtH h0 h' := ((D.N n hn).turn A' t).ext
  refine ⟨fun k hk => ?_, fun k hk => ?_, fun k hk => ?_, fun k hk => ?_, fun j hj k hk => ?_, fun j hj k hk => ?_, fun j hj k hk => ?_, ?_, ?_, D.z9, D.z10⟩
  · rcases upd_case s n { s n with v := v', ws := ws' } k with ⟨rfl, e⟩ | ⟨hne, e⟩ <;> rw [e]
    · exact (D.N k hk).turn A' t
    · refine ⟨(D.N k hk).at_.keep t.1 (fun e => ?_) (fun b hb e => ?_), ext, (D.N k hk).p, (D.N k hk).v⟩
      · rcases e with e | e
        · exact D.pp k hk n hn hne e
        · exact OwnS.ne (D.N n hn).at_.own (D.N k hk).at_.blk (by decide) e
      · rcases e with rfl | e
        · exact OwnS.ne (D.N k hk).at_.own (D.N n hn).at_.blk (by decide) hb
        · exact D.vv k hk n hn hne b hb e
  · rcases upd_case s n { s n with v := v', ws := ws' } k with ⟨rfl, e⟩ | ⟨hne, e⟩ <;> rw [e]
    · exact I'
    · exact D.I k hk
  · rw [hw, hr]
    refine OwnS.keep (D.O k hk) t.1 (fun b hb e => ?_)
    rcases e with rfl | e
    · exact OwnS.ne (D.O k hk) (D.N n hn).at_.blk (by decide) hb
    · exact D.wv k hk n hn b hb e
  · rw [hw]; exact D.w0 k hk
  · rw [hw]
    rcases upd_case s n { s n with v := v', ws := ws' } k with ⟨rfl, e⟩ | ⟨hne, e⟩ <;> rw [e]
    · intro b hb e
      rcases t.2 b e with e | e
      · exact D.wv j hj k hk b hb e
      · have := OwnS.lt (D.O j hj) hb; omega
    · exact D.wv j hj k hk
  · rw [hp, hp]; exact D.pp j hj k hk
  · intro hne b hb e
    rcases upd_case s n { s n with v := v', ws := ws' } j with ⟨e1, e2⟩ | ⟨e1, e2⟩ <;> rcases upd_case s n { s n with v := v', ws := ws' } k with ⟨e3, e4⟩ | ⟨e3, e4⟩ <;> rw [e2] at hb <;> rw [e4] at e
    · omega
    · rcases t.2 b hb with hb | hb
      · exact D.vv n hn k hk (by omega) b hb e
      · have := OwnS.lt (D.N k hk).at_.own e; omega
    · rcases t.2 b e with e | e
      · exact D.vv j hj n hn (by omega) b hb e
      · have := OwnS.lt (D.N j hj).at_.own hb; omega
    · exact D.vv j hj k hk hne b hb e
  · rw [hp, hp]; exact t.1.blk D.A9 n9
  · rw [hw, hw]; exact t.1.blk D.A10 n10
/-- another pool, with a list of its own, stands at m -/
theorem Duo.pool (D : Duo h0 h a9 a10 wk sl id s) {m : Nat} (hm : m < 2) {q : Nat} {v' : Value} {ws' : List Wk} (w : Wrote h h' a9 ([pt (s 0).p, pt (s 1).p].set m (pt q)) 66)
    (A : PoolNew h0 h q v' wk sl id ws') (I' : Inv wk sl id ws') (hq : ∀ k, k < 2 → q ≠ (s k).p) (hv : ∀ k, k < 2 → ∀ b, ob v' b → ¬ ob (s k).v b ∧ ¬ ob (s k).wv b) :
    Duo h0 h' a9 a10 wk sl id (upd s m { s m with p := q, v := v', ws := ws' }) := by
  have hw : ∀ k, (upd s m { s m with p := q, v := v', ws := ws' } k).wv = (s k).wv := fun k => by
    rcases upd_case s m { s m with p := q, v := v', ws := ws' } k with ⟨rfl, e⟩ | ⟨_, e⟩ <;> rw [e]
  have hr : ∀ k, (upd s m { s m with p := q, v := v', ws := ws' } k).rs = (s k).rs := fun k => by
    rcases upd_case s m { s m with p := q, v := v', ws := ws' } k with ⟨rfl, e⟩ | ⟨_, e⟩ <;> rw [e]
  have keepN : ∀ {p : Nat} {v : Value} {ws : List Wk}, PoolNew h0 h p v wk sl id ws → PoolNew h0 h' p v wk sl id ws := fun A =>
    ⟨A.at_.keep w.chg (fun e => blk_apart A.at_.blk D.A9 (by decide) e) (fun b hb e => by subst e; exact OwnS.ne A.at_.own D.A9 (by decide) hb),
      ⟨by have := A.ext.size; have := w.size; omega, fun b hb => by have := D.z9; have := A.ext.size; rw [w.block b (by omega), A.ext.block b hb]⟩, A.p, A.v⟩
  refine ⟨fun k hk => ?_, fun k hk => ?_, fun k hk => ?_, fun k hk => ?_, fun j hj k hk => ?_, fun j hj k hk => ?_, fun j hj k hk => ?_, ?_, ?_, D.z9, D.z10⟩
  · rcases upd_case s m { s m with p := q, v := v', ws := ws' } k with ⟨rfl, e⟩ | ⟨hne, e⟩ <;> rw [e]
    · exact keepN A
    · exact keepN (D.N k hk)
  · rcases upd_case s m { s m with p := q, v := v', ws := ws' } k with ⟨rfl, e⟩ | ⟨hne, e⟩ <;> rw [e]
    · exact I'
    · exact D.I k hk
  · rw [hw, hr]
    exact OwnS.keep (D.O k hk) w.chg (fun b hb e => by subst e; exact OwnS.ne (D.O k hk) D.A9 (by decide) hb)
  · rw [hw]; exact D.w0 k hk
  · rw [hw]
    rcases upd_case s m { s m with p := q, v := v', ws := ws' } k with ⟨rfl, e⟩ | ⟨hne, e⟩ <;> rw [e]
    · intro b hb e; exact (hv j hj b e).2 hb
    · exact D.wv j hj k hk
  · intro hne
    rcases upd_case s m { s m with p := q, v := v', ws := ws' } j with ⟨e1, e2⟩ | ⟨e1, e2⟩ <;> rcases upd_case s m { s m with p := q, v := v', ws := ws' } k with ⟨e3, e4⟩ | ⟨e3, e4⟩ <;> rw [e2, e4]
    · omega
    · exact hq k hk
    · exact (hq j hj).symm
    · exact D.pp j hj k hk hne
  · intro hne b hb e
    rcases upd_case s m { s m with p := q, v := v', ws := ws' } j with ⟨e1, e2⟩ | ⟨e1, e2⟩ <;> rcases upd_case s m { s m with p := q, v := v', ws := ws' } k with ⟨e3, e4⟩ | ⟨e3, e4⟩ <;> rw [e2] at hb <;> rw [e4] at e
    · omega
    · exact (hv k hk b hb).1 e
    · exact (hv j hj b e).1 hb
    · exact D.vv j hj k hk hne b hb e
  · refine (w.cast ?_).new
    obtain rfl | rfl : m = 0 ∨ m = 1 := by omega
    · rfl
    · rfl
  · rw [hw, hw]; exact w.blk D.A10 (blk_apart D.A10 D.A9 (by decide))
/-- the document's m is written anew -/
theorem Duo.put (D : Duo h0 h a9 a10 wk sl id s) {m : Nat} (hm : m < 2) {wv' : Value} {rs' : List Wk} (w : Wrote h h' a10 (splice (refC wk sl id (s 0).wv ++ refC wk sl id (s 1).wv) (m * 4) (refC wk sl id wv')) 67)
    (o : OW h wv' rs') (h1 : ∀ b, ob wv' b → h0.size ≤ b) (h2 : ∀ k, k < 2 → ∀ b, ob wv' b → ¬ ob (s k).v b) :
    Duo h0 h' a9 a10 wk sl id (upd s m { s m with wv := wv', rs := rs' }) := by
  have hp : ∀ k, (upd s m { s m with wv := wv', rs := rs' } k).p = (s k).p := fun k => by
    rcases upd_case s m { s m with wv := wv', rs := rs' } k with ⟨rfl, e⟩ | ⟨_, e⟩ <;> rw [e]
  have hv : ∀ k, (upd s m { s m with wv := wv', rs := rs' } k).v = (s k).v := fun k => by
    rcases upd_case s m { s m with wv := wv', rs := rs' } k with ⟨rfl, e⟩ | ⟨_, e⟩ <;> rw [e]
  have hw : ∀ k, (upd s m { s m with wv := wv', rs := rs' } k).ws = (s k).ws := fun k => by
    rcases upd_case s m { s m with wv := wv', rs := rs' } k with ⟨rfl, e⟩ | ⟨_, e⟩ <;> rw [e]
  refine ⟨fun k hk => ?_, fun k hk => ?_, fun k hk => ?_, fun k hk => ?_, fun j hj k hk => ?_, fun j hj k hk => ?_, fun j hj k hk => ?_, ?_, ?_, D.z9, D.z10⟩
  · rw [hp, hv, hw]
    have A := D.N k hk
    exact ⟨A.at_.keep w.chg (fun e => blk_apart A.at_.blk D.A10 (by decide) e) (fun b hb e => by subst e; exact OwnS.ne A.at_.own D.A10 (by decide) hb),
      ⟨by have := A.ext.size; have := w.size; omega, fun b hb => by have := D.z10; have := A.ext.size; rw [w.block b (by omega), A.ext.block b hb]⟩, A.p, A.v⟩
  · rw [hw]; exact D.I k hk
  · rcases upd_case s m { s m with wv := wv', rs := rs' } k with ⟨rfl, e⟩ | ⟨hne, e⟩ <;> rw [e]
    · exact OwnS.keep o w.chg (fun b hb e => by subst e; exact OwnS.ne o D.A10 (by decide) hb)
    · exact OwnS.keep (D.O k hk) w.chg (fun b hb e => by subst e; exact OwnS.ne (D.O k hk) D.A10 (by decide) hb)
  · rcases upd_case s m { s m with wv := wv', rs := rs' } k with ⟨rfl, e⟩ | ⟨hne, e⟩ <;> rw [e]
    · exact h1
    · exact D.w0 k hk
  · rw [hv]
    rcases upd_case s m { s m with wv := wv', rs := rs' } j with ⟨rfl, e⟩ | ⟨hne, e⟩ <;> rw [e]
    · exact h2 k hk
    · exact D.wv j hj k hk
  · rw [hp, hp]; exact D.pp j hj k hk
  · rw [hv, hv]; exact D.vv j hj k hk
  · rw [hp, hp]; exact w.blk D.A9 (blk_apart D.A9 D.A10 (by decide))
  · refine (w.cast ?_).new
    obtain rfl | rfl : m = 0 ∨ m = 1 := by omega
    · rfl
    · rfl
theorem store_duo (D : Duo h0 h a9 a10 wk sl id s) {m off : Nat} (hm : m < 2) (ho : off = m * 4) {wv' : Value} {rs' : List Wk} (o : OW h wv' rs') (h1 : ∀ b, ob wv' b → h0.size ≤ b) (h2 : ∀ k, k < 2 → ∀ b, ob wv' b → ¬ ob (s k).v b) {K : Heap → Prop}
    (H : ∀ h', Duo h0 h' a9 a10 wk sl id (upd s m { s m with wv := wv', rs := rs' }) → Chg (fun b => b = a10) h h' → K h') :
    ∃ l t, Blk h a10 l t ∧ (off + (refC wk sl id wv').toArray.size ≤ l.length ∧ (refC wk sl id wv').toArray.size = 4 ∧ ∀ x ∈ (refC wk sl id wv').toArray.toList, x.oneCell' = true) ∧ ∀ h', Wrote h h' a10 (splice l off (refC wk sl id wv').toArray.toList) t → K h' := by
  subst ho
  obtain ⟨a, c, e, _⟩ := o.fix
  subst e
  exact ⟨_, _, D.A10, ⟨by show m * 4 + 4 ≤ 8; omega, rfl, by simp [refC, Value.oneCell']⟩, fun h' w => H h' (D.put hm w o h1 h2) w.chg⟩
/-- a write into a block of another kind -/
theorem Duo.wrote (D : Duo h0 h a9 a10 wk sl id s) {b : Nat} {l l' : List Value} {t : TypeId} (hb : Blk h b l t) (w : Wrote h h' b l' t) (hz : h0.size ≤ b) (t1 : t ≠ 69) (t2 : t ≠ 31) (t3 : t ≠ 66) (t4 : t ≠ 67) : Duo h0 h' a9 a10 wk sl id s := by
  refine ⟨fun k hk => ?_, D.I, fun k hk => OwnS.keep (D.O k hk) w.chg (fun c hc e => by subst e; exact OwnS.ne (D.O k hk) hb t2 hc), D.w0, D.wv, D.pp, D.vv, w.blk D.A9 (blk_apart D.A9 hb t3.symm), w.blk D.A10 (blk_apart D.A10 hb t4.symm), D.z9, D.z10⟩
  have A := D.N k hk
  exact ⟨A.at_.keep w.chg (fun e => blk_apart A.at_.blk hb t1.symm e) (fun c hc e => by subst e; exact OwnS.ne A.at_.own hb t2 hc),
    ⟨by have := A.ext.size; have := w.size; omega, fun c hc => by have := A.ext.size; rw [w.block c (by omega), A.ext.block c hc]⟩, A.p, A.v⟩
theorem Duo.is (D : Duo h0 h a9 a10 wk sl id s) {k : Nat} (hk : k < 2) (hr : (s k).rs = (s k).ws) (hs : (s k).ws.length ≤ 1000000000) :
    Fx Try.prog 25 #[pt (s k).p, .agg (refC wk sl id (s k).wv).toArray] h fun u h' => u = .bool true ∧ ExtH h h' :=
  is2_fn (D.N k hk).at_ (by have := D.O k hk; rwa [hr] at this) (D.I k hk) hs
theorem rd9 {b : Heap} {x t : Nat} {p q : Value} (h : Blk b x [p, q] t) {n : Nat} (hn : n < 2) : rd b ⟨x, n, none⟩ = some (if n = 0 then p else q) := by
  obtain rfl | rfl : n = 0 ∨ n = 1 := by omega
  · exact h.rd (o := 0) rfl
  · exact h.rd (o := 1) rfl
end
end Go.Proofs.Ytcmjgkjnnmfijaa
