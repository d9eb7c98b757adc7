/-
  The operations that only read: what is asked of each is enough, in every heap with more blocks.
-/
import Derived.Test.YtgecapllodgdeaaGreatDoorVmOps
namespace Go.Proofs.YtgecapllodgdeaaGreatDoor.Vm
open Go
set_option linter.unusedSimpArgs false
theorem bnd_elim {fr : Fr} {x : Option Operand} {d : Nat} {k : Int → Prop} (h : bnd fr x d k) {n : Nat} {a : Act} (hF : Hold n fr a) :
    ∃ i, k i ∧ (x.map a.eval = none ∧ i = d ∨ ∃ kd, x.map a.eval = some (.int kd i)) := by
  unfold bnd at h
  split at h
  · exact ⟨_, h, .inl ⟨rfl, rfl⟩⟩
  · obtain ⟨v, hv, h⟩ := evk_elim h
    split at h
    · exact ⟨_, h, .inr ⟨_, congrArg some (hF.ev hv)⟩⟩
    · exact h.elim
theorem bnd_elim0 {fr : Fr} {x : Option Operand} {k : Int → Prop} (h : bnd fr x 0 k) {n : Nat} {a : Act} (hF : Hold n fr a) :
    ∃ i, k i ∧ (x.map a.eval = none ∧ i = 0 ∨ ∃ kd, x.map a.eval = some (.int kd i)) := bnd_elim h hF
theorem mapM_ev {fr : Fr} {n : Nat} {a : Act} (hF : Hold n fr a) : ∀ (l : List (Nat × Operand)) (vs : List (Nat × Value)),
    evl fr l = some vs → l.map (fun p => (p.1, a.eval p.2)) = vs
  | [], vs, h => by simp [evl] at h; simp [h]
  | (i, x) :: l, vs, h => by
    simp only [evl] at h
    split at h
    · rename_i v us hv hl
      cases h
      simp [hF.ev hv, mapM_ev hF l us hl]
    · cases h
theorem opq_sound {P : Program} {o : Oper} {fr : Fr} {h : Heap} {k : Value → Prop} {n : Nat} {a : Act} (hF : Hold n fr a) (H : opq P o fr h k) :
    ∃ v, k v ∧ ∀ w, ExtH h w.heap → (execOp a.eval o).run P w = .ok (.value v) w := by
  unfold opq at H
  split at H
  · rename_i x ho
    obtain ⟨v, hv, H⟩ := evk_elim H
    exact ⟨v, H, fun w _ => by simp [execOp, ho, hF.ev hv]⟩
  · rename_i x ho
    obtain ⟨v, hv, H⟩ := evk_elim H
    exact ⟨v, H, fun w _ => by simp [execOp, ho, hF.ev hv]⟩
  · rename_i c x y ho
    obtain ⟨v, hv, H⟩ := evk_elim H
    split at H
    · obtain ⟨u, hu, H⟩ := evk_elim H
      exact ⟨u, H, fun w _ => by simp [execOp, ho, hF.ev hv, hF.ev hu, asBool]⟩
    · obtain ⟨u, hu, H⟩ := evk_elim H
      exact ⟨u, H, fun w _ => by simp [execOp, ho, hF.ev hv, hF.ev hu, asBool]⟩
    · exact H.elim
  · rename_i x ho
    obtain ⟨v, hv, H⟩ := evk_elim H
    split at H
    · exact ⟨_, H, fun w _ => by simp [execOp, ho, hF.ev hv]⟩
    · exact ⟨_, H, fun w _ => by simp [execOp, ho, hF.ev hv]⟩
    · exact H.elim
  · rename_i op t x y yt ho
    obtain ⟨u, hu, H⟩ := evk_elim H
    obtain ⟨v, hv, H⟩ := evk_elim H
    obtain ⟨r, hr, H⟩ := binq_elim H
    exact ⟨r, H, fun w _ => by simp only [execOp, ho, hF.ev hu, hF.ev hv, Sem.run_bind, hr]; rfl⟩
  · rename_i op t x ho
    obtain ⟨v, hv, H⟩ := evk_elim H
    split at H
    · exact ⟨_, H, fun w _ => by simp [execOp, ho, hF.ev hv, Op.unary, Op.intArith]⟩
    · exact ⟨_, H, fun w _ => by simp [execOp, ho, hF.ev hv, Op.unary, intBits_xor]⟩
    · exact ⟨_, H, fun w _ => by simp [execOp, ho, hF.ev hv, Op.unary]⟩
    · exact H.elim
  · rename_i s t x ho
    obtain ⟨v, hv, H⟩ := evk_elim H
    split at H
    · rename_i hs ht
      exact ⟨_, H, fun w _ => by simp [execOp, ho, hF.ev hv, convert, run_underlying hs, run_underlying ht, Conv.intToInt]⟩
    · rename_i hs ht
      exact ⟨_, H, fun w _ => by simp [execOp, ho, hF.ev hv, convert, run_underlying hs, run_underlying ht]⟩
    · exact H.elim
  · rename_i s x i ho
    obtain ⟨v, hv, H⟩ := evk_elim H
    split at H
    · rename_i fs ad hs
      split at H
      · rename_i f hf
        split at H
        · rename_i inf hi
          split at H
          · exact H.elim
          · rename_i hsz
            have H := addk_elim H
            exact ⟨_, H, fun w _ => by simp [execOp, ho, hF.ev hv, Instr.fieldAt, run_underlying hs, hf, Instr.sureAddr, fieldPlace, sizeOf, typeInfo, hi, hsz]⟩
        · exact H.elim
      · exact H.elim
    · exact H.elim
  · rename_i t x i ho
    obtain ⟨v, hv, H⟩ := evk_elim H
    split at H
    · rename_i fs cs hs
      split at H
      · rename_i f hf
        obtain ⟨u, hu, H⟩ := partk_elim H
        exact ⟨u, H, fun w _ => by simp [execOp, ho, hF.ev hv, Instr.field, run_underlying hs, hf, asAgg, hu]⟩
      · exact H.elim
    · exact H.elim
  · rename_i t x i ho
    obtain ⟨v, hv, H⟩ := evk_elim H
    obtain ⟨iv, hiv, H⟩ := evk_elim H
    split at H
    · split at H
      · rename_i ht _
        split at H
        · rename_i hi
          obtain ⟨⟨h0, h1⟩, H⟩ := H
          have H := addi_elim H
          exact ⟨_, H, fun w _ => by simp [execOp, ho, hF.ev hv, hF.ev hiv, Instr.indexAt, run_underlying ht, asIntOf, Instr.sureAddr, h0, h1, sizeOf, typeInfo, hi]⟩
        · exact H.elim
      · rename_i ht _
        split at H
        · rename_i hi
          obtain ⟨⟨h0, h1⟩, H⟩ := H
          have H := addi_elim H
          exact ⟨_, H, fun w _ => by simp [execOp, ho, hF.ev hv, hF.ev hiv, Instr.indexAt, run_underlying ht, asIntOf, h0, h1, sizeOf, typeInfo, hi]⟩
        · exact H.elim
      · exact H.elim
    · exact H.elim
  · rename_i t x i ho
    obtain ⟨v, hv, H⟩ := evk_elim H
    obtain ⟨iv, hiv, H⟩ := evk_elim H
    split at H
    · split at H
      · rename_i ht _
        split at H
        · rename_i hi
          obtain ⟨⟨h0, h1⟩, H⟩ := H
          obtain ⟨u, hu, H⟩ := partk_elim H
          exact ⟨u, H, fun w _ => by simp [execOp, ho, hF.ev hv, hF.ev hiv, Instr.index, run_underlying ht, asIntOf, h0, h1, sizeOf, typeInfo, hi, hu]⟩
        · exact H.elim
      · rename_i ht _
        obtain ⟨b, ⟨h0, h1⟩, H⟩ := H
        exact ⟨_, H, fun w _ => by simp [execOp, ho, hF.ev hv, hF.ev hiv, Instr.index, run_underlying ht, asIntOf, h0, h1]⟩
      · exact H.elim
    · exact H.elim
  · rename_i x i ho
    obtain ⟨v, hv, H⟩ := evk_elim H
    split at H
    · split at H
      · rename_i u hu
        exact ⟨u, H, fun w _ => by simp [execOp, ho, hF.ev hv, Instr.extract, hu]⟩
      · exact H.elim
    · exact H.elim
  · rename_i t x ho
    obtain ⟨v, hv, H⟩ := evk_elim H
    split at H
    · obtain ⟨u, H, hu⟩ := loadk_elim H
      exact ⟨u, H, fun w hw => by simp [execOp, ho, hF.ev hv, Instr.loadAt, Instr.sureAddr, hu w hw]⟩
    · exact H.elim
  · rename_i t x lo hi ho
    obtain ⟨v, hv, H⟩ := evk_elim H
    split at H
    · rename_i s ht
      obtain ⟨l, H, hl⟩ := bnd_elim0 H hF
      obtain ⟨j, H, hj⟩ := bnd_elim H hF
      obtain ⟨⟨h0, h1, h2⟩, H⟩ := H
      exact ⟨_, H, fun w _ => by
        have := run_sliceBounds (P := P) false s.size s.size _ _ l j w hl hj h0 h1 h2
        simp [execOp, ho, hF.ev hv, Instr.sliceAt, Instr.slice, run_underlying ht, this]⟩
    · rename_i e ad len cap ht
      split at H
      · rename_i inf hi'
        obtain ⟨l, H, hl⟩ := bnd_elim0 H hF
        obtain ⟨j, H, hj⟩ := bnd_elim H hF
        obtain ⟨⟨h0, h1, h2⟩, A, hA, H⟩ := H
        exact ⟨_, H, fun w _ => by
          have := run_sliceBounds (P := P) true len cap _ _ l j w hl hj h0 h1 h2
          simp [execOp, ho, hF.ev hv, Instr.sliceAt, Instr.slice, run_underlying ht, this, sizeOf, typeInfo, hi', hA]⟩
      · exact H.elim
    · rename_i m e ad ht
      split at H
      · rename_i inf hi'
        obtain ⟨l, H, hl⟩ := bnd_elim0 H hF
        obtain ⟨j, H, hj⟩ := bnd_elim H hF
        obtain ⟨⟨h0, h1, h2⟩, A, hA, H⟩ := H
        exact ⟨_, H, fun w _ => by
          have := run_sliceBounds (P := P) false m m _ _ l j w hl hj h0 h1 h2
          simp [execOp, ho, hF.ev hv, Instr.sliceAt, Instr.sureAddr, run_underlying ht, this, sizeOf, typeInfo, hi', hA]⟩
      · exact H.elim
    · exact H.elim
  · rename_i T x ho
    obtain ⟨v, hv, H⟩ := evk_elim H
    split at H
    · rename_i ht
      obtain ⟨h0, H⟩ := H
      exact ⟨_, H, fun w _ => by simp [execOp, ho, hF.ev hv, Instr.arrayAt, run_underlying ht, Nat.not_lt.2 h0]⟩
    · exact H.elim
  · rename_i c ho
    unfold lenq at H
    split at H
    · rename_i hc
      split at H
      · rename_i x T hx hT
        obtain ⟨v, hv, H⟩ := evk_elim H
        split at H
        · rename_i ht
          exact ⟨_, H, fun w _ => by simp [execOp, ho, hc, hx, hT, hF.ev hv, resolve, invoke, builtin, Builtin.len_, run_underlying ht, goInt]⟩
        · rename_i ht
          exact ⟨_, H, fun w _ => by simp [execOp, ho, hc, hx, hT, hF.ev hv, resolve, invoke, builtin, Builtin.len_, run_underlying ht, goInt]⟩
        · exact H.elim
      · exact H.elim
    · exact H.elim
  · rename_i t parts ho
    obtain ⟨vs, hvs, c, hc, H⟩ := H
    have e : parts.map (fun p => (p.1, a.eval p.2)) = vs.toArray := by
      apply Array.ext'
      simpa using mapM_ev hF parts.toList vs hvs
    refine ⟨_, H, fun w _ => ?_⟩
    simp only [execOp, ho, Sem.run_bind]
    rw [show (parts.map fun x => match x with | (i, x) => (i, a.eval x)) = vs.toArray from e, hc]
    rfl
  · rename_i t x ix ok ho
    obtain ⟨v, hv, H⟩ := evk_elim H
    obtain ⟨i, hi, H⟩ := evk_elim H
    obtain ⟨u, hu, H⟩ := H
    exact ⟨u, H, fun w hw => by simp [execOp, ho, hF.ev hv, hF.ev hi, hu w hw]⟩
  · rename_i t x ho
    obtain ⟨v, hv, u, hu, H⟩ := evk_elim H
    exact ⟨u, H, fun w hw => by simp [execOp, ho, hF.ev hv, hu w]⟩
  · rename_i x t as ok ho
    obtain ⟨v, hv, u, hu, H⟩ := evk_elim H
    exact ⟨u, H, fun w hw => by simp [execOp, ho, hF.ev hv, hu w]⟩
  · exact H.elim
end Go.Proofs.YtgecapllodgdeaaGreatDoor.Vm
