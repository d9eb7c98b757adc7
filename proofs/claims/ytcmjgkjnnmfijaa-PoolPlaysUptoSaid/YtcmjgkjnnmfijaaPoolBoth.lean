/-
  A pool and the document's beside it.
-/
import Derived.Test.YtcmjgkjnnmfijaaPoolRight
namespace Go.Proofs.Ytcmjgkjnnmfijaa
open Go Vm
set_option maxRecDepth 100000
set_option linter.unusedVariables false
set_option linter.unusedSimpArgs false
theorem blk_apart {h : Heap} {b c : Nat} {l m : List Value} {t u : TypeId} (hb : Blk h b l t) (hc : Blk h c m u) (ht : t ≠ u) : b ≠ c := by
  rintro rfl
  unfold Blk at hb hc
  rw [hb] at hc
  injection hc with hc
  injection hc with _ hc _
  exact ht hc
/-- one cell of a list of our own is written -/
theorem own_set {h : Heap} {e : TypeId} {k : Nat} {v : Value} {n : Nat} {xs : List Value} (H : OwnS h e k v n xs) {off : Nat} (hoff : off < n * k) (u : Value) :
    ∃ g c, v = .slice (some ⟨g, 0, none⟩) n c ∧ ∀ K : Heap → Prop, (∀ h', OwnS h' e k v n (xs.set off u) → Chg (fun b => b = g) h h' → K h') → ∃ l t, Blk h g l t ∧ off < l.length ∧ ∀ h', Wrote h h' g (l.set off u) t → K h' := by
  have hl := H.1
  rcases H.2 with ⟨rfl, h0⟩ | ⟨g, c, tl, rfl, hb, h1, h2, h3⟩
  · subst h0; omega
  · refine ⟨g, c, rfl, fun K HK => ⟨_, _, hb, by rw [List.length_append]; omega, fun h' w => ?_⟩⟩
    have w' := w.cast (l' := xs.set off u ++ tl) (by rw [List.set_append_left _ _ (by omega)])
    refine HK h' ⟨by rw [List.length_set]; exact hl, .inr ⟨g, c, tl, rfl, w'.new, h1, h2, ?_⟩⟩ w'.chg
    rw [List.length_append, List.length_set, ← List.length_append]
    exact h3
/-- the pool at p, made behind h0, and the document's, whose value lies at rb -/
structure Both (h0 h : Heap) (p rb : Nat) (v wv : Value) (wk sl id : Int) (ws rs : List Wk) : Prop where
  N : PoolNew h0 h p v wk sl id ws
  R : Blk h rb (refC wk sl id wv) 53
  O : OW h wv rs
  wvv : ∀ b, ob wv b → ¬ ob v b
  r0 : h0.size ≤ rb
  w0 : ∀ b, ob wv b → h0.size ≤ b
theorem Both.more {h0 h h' : Heap} {p rb : Nat} {v wv : Value} {wk sl id : Int} {ws rs : List Wk} (B : Both h0 h p rb v wv wk sl id ws rs) (e : ExtH h h') : Both h0 h' p rb v wv wk sl id ws rs :=
  ⟨B.N.more e, e.blk B.R, B.O.more e, B.wvv, B.r0, B.w0⟩
theorem Both.rp {h0 h : Heap} {p rb : Nat} {v wv : Value} {wk sl id : Int} {ws rs : List Wk} (B : Both h0 h p rb v wv wk sl id ws rs) : rb ≠ p := blk_apart B.R B.N.at_.blk (by decide)
theorem Both.rv {h0 h : Heap} {p rb : Nat} {v wv : Value} {wk sl id : Int} {ws rs : List Wk} (B : Both h0 h p rb v wv wk sl id ws rs) : ¬ ob v rb := OwnS.ne B.N.at_.own B.R (by decide)
theorem Both.wp {h0 h : Heap} {p rb : Nat} {v wv : Value} {wk sl id : Int} {ws rs : List Wk} (B : Both h0 h p rb v wv wk sl id ws rs) : ¬ ob wv p := OwnS.ne B.O B.N.at_.blk (by decide)
/-- the pool is turned, the document's not -/
theorem Both.turn {h0 h h' : Heap} {p rb : Nat} {v v' wv : Value} {wk sl id : Int} {ws ws' rs : List Wk} (B : Both h0 h p rb v wv wk sl id ws rs) (A' : PoolAt h' p v' wk sl id ws') (t : Turned h h' p v v') : Both h0 h' p rb v' wv wk sl id ws' rs := by
  refine ⟨B.N.turn A' t, t.1.blk B.R (fun e => e.elim B.rp B.rv), OwnS.keep B.O t.1 (fun b hb e => ?_), fun b hb e => ?_, B.r0, B.w0⟩
  · rcases e with rfl | e
    · exact B.wp hb
    · exact B.wvv b hb e
  · rcases t.2 b e with e | e
    · exact B.wvv b hb e
    · have := OwnS.lt B.O hb; omega
/-- a change in blocks that are neither's -/
theorem Both.keep {S : Nat → Prop} {h0 h h' : Heap} {p rb : Nat} {v wv : Value} {wk sl id : Int} {ws rs : List Wk} (B : Both h0 h p rb v wv wk sl id ws rs) (c : Chg S h h') (hS : ∀ b, S b → h0.size ≤ b ∧ b ≠ p ∧ b ≠ rb ∧ ¬ ob v b ∧ ¬ ob wv b) : Both h0 h' p rb v wv wk sl id ws rs := by
  refine ⟨⟨B.N.at_.keep c (fun e => (hS _ e).2.1 rfl) (fun b hb e => (hS b e).2.2.2.1 hb), ⟨by have := B.N.ext.size; have := c.size; omega, fun b hb => ?_⟩, B.N.p, B.N.v⟩, c.blk B.R (fun e => (hS _ e).2.2.1 rfl), OwnS.keep B.O c (fun b hb e => (hS b e).2.2.2.2 hb), B.wvv, B.r0, B.w0⟩
  have h1 := B.N.ext.size
  rw [c.block b (by omega) (fun e => by have := (hS b e).1; omega), B.N.ext.block b hb]
/-- the document's is turned: its new value is written -/
theorem Both.put {h0 h h' : Heap} {p rb : Nat} {v wv wv' : Value} {wk sl id : Int} {ws rs rs' : List Wk} (B : Both h0 h p rb v wv wk sl id ws rs) (w : Wrote h h' rb (refC wk sl id wv') 53) (o : OW h wv' rs') (hd : ∀ b, ob wv' b → ¬ ob v b ∧ h0.size ≤ b) : Both h0 h' p rb v wv' wk sl id ws rs' := by
  have K := B.N.at_.keep w.chg B.rp.symm (fun b hb e => by subst e; exact B.rv hb)
  refine ⟨⟨K, ⟨by have := B.N.ext.size; have := w.size; omega, fun b hb => ?_⟩, B.N.p, B.N.v⟩, w.new, OwnS.keep o w.chg (fun b hb e => by subst e; exact OwnS.ne o B.R (by decide) hb), fun b hb => (hd b hb).1, B.r0, fun b hb => (hd b hb).2⟩
  have h1 := B.N.ext.size
  have h2 := B.r0
  rw [w.block b (by omega), B.N.ext.block b hb]
theorem Both.fix {h0 h : Heap} {p rb : Nat} {v wv : Value} {wk sl id : Int} {ws rs : List Wk} (B : Both h0 h p rb v wv wk sl id ws rs) : ∃ a c, wv = .slice a rs.length c ∧ rs.length ≤ maxLen := B.O.fix
end Go.Proofs.Ytcmjgkjnnmfijaa
