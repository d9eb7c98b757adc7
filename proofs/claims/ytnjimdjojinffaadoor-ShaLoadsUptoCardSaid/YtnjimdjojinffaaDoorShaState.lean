/-
  The contracts of package sha's State, of Write where it refuses, and of the document's Same.
-/
import Derived.Test.YtnjimdjojinffaaDoorShaLoad2
namespace Go.Proofs.YtnjimdjojinffaaDoor
open Go Vm
set_option maxRecDepth 100000
theorem state_fn {h : Heap} {p : Nat} {v : Value} {s : Sha.S8} {l : List UInt8} {n : Nat} (H : HashAt h p v s l n) (hl : l.length ≤ 140737488355328) :
    Fx Tryd.prog 27 #[.pointer (some ⟨p, 0, none⟩)] h fun u h' => ∃ v', u = .agg (stateC s v' n).toArray ∧ OB h' v' l ∧ ExtH h h' ∧ ∀ b, ob v' b → h.size ≤ b := by
  refine fn_of 22 Tryd.func27 rfl (by kernel_rfl) rfl (by simp) ?_
  refine cw_seq (cw_region rfl ?_)
  conv => whnf
  intro h0 n0
  refine cw_seq (cw_seq (cw_region rfl ?_))
  conv => whnf
  refine ⟨.bool false, fun w => by kernel_rfl, ?_⟩
  refine cw_false rfl (cw_skip ?_)
  have z0 := n0.size
  have y0 : Blk h0 h.size (stateC ⟨0, 0, 0, 0, 0, 0, 0, 0⟩ (.slice none 0 0) 0) 43 := n0.blk
  have H0 := H.more n0.ext
  refine cw_seq (cw_region rfl ?_)
  conv => whnf
  refine ⟨_, rfl, _, ready_fn (H0.blk.rd rfl), ?_⟩
  rintro _ h1 ⟨rfl, e⟩
  subst h1
  refine cw_seq ?_
  refine cw_drawn (by kernel_rfl) 14 (fun i => i == 8) [0, 1, 2, 3, 4, 5, 6, 7, 9, 10, 11, 12, 8, 13] (by kernel_rfl) rfl ?_
  conv => whnf
  refine ⟨_, by rfl, H0.words, ?_⟩
  conv => whnf
  refine ⟨_, H0.buf, ?_⟩
  conv => whnf
  refine ⟨_, (H0.blk.rd (o := 10) rfl), ?_⟩
  conv => whnf
  intro h2 x2
  refine ⟨_, rfl, _, clone_fn (Src.more H0.own.r x2) hl, ?_⟩
  rintro v' h3 ⟨o3, x3, f3⟩
  obtain ⟨a3, k3, e3⟩ := o3.r.len
  subst e3
  refine ⟨x3.toU _, ?_⟩
  intro h4 x4
  conv => whnf
  refine ⟨_, rfl, (stateC s (.slice a3 l.length k3) n).toArray, fun w => by kernel_rfl, ?_⟩
  conv => whnf
  intro h5 x5
  conv => whnf
  have x05 := (x2.trans x3).trans (x4.trans x5)
  refine ⟨_, _, x05.blk y0, ⟨(show (10 : Nat) ≤ 10 by decide), by rfl, by simp [stateC, u32v, Value.oneCell']⟩, ?_⟩
  intro h6 w6
  replace w6 := w6.cast (l' := stateC s (.slice a3 l.length k3) n) (by rfl)
  refine cw_ret ?_
  conv => whnf
  refine ⟨_, by rfl, w6.new.all, ?_⟩
  have z2 := x2.size; have z3 := x3.size; have z4 := x4.size; have z5 := x5.size; have z6 := w6.size
  refine ⟨_, rfl, OwnS.keep (OwnS.more o3 (x4.trans x5)) w6.chg (fun b hb e => by have := f3 b hb; omega), ⟨by omega, fun b hb => by rw [w6.block b (by omega), x05.block b (by omega), n0.block b hb]⟩, fun b hb => by have := f3 b hb; omega⟩
theorem words_eq (xo yo : Operand) (s t : Sha.S8) (w : World) :
    (do eqGuard .eql 23 xo yo (.agg (s.list.map u32v).toArray) (.agg (t.list.map u32v).toArray); binOp .eql 23 (.agg (s.list.map u32v).toArray) (.agg (t.list.map u32v).toArray) : Sem Value).run Tryd.prog w = .ok (.bool (decide (s = t))) w := by
  have e : ∀ s : Sha.S8, s.list.map u32v = (s.list.map (fun x => (x.toNat : Int))).map (Value.int .u32) := fun s => by rw [List.map_map]; rfl
  rw [e, e, run_eq_ints (P := Tryd.prog) (t := 23) (e := 22) (n := 8) rfl rfl (by kernel_rfl) (i := Tryd.prog.types[22]) rfl (by kernel_rfl) (by kernel_rfl) xo yo _ _ rfl rfl w]
  congr 3
  rw [eq_iff_iff]
  constructor
  · intro h
    cases s; cases t
    simp only [Sha.S8.list, List.map_cons, List.map_nil, List.cons.injEq, Int.natCast_inj, UInt32.toNat_inj, and_true] at h
    simp only [Sha.S8.mk.injEq]
    exact h
  · rintro rfl; rfl
theorem same_fn {h : Heap} {s : Sha.S8} {u v : Value} {l : List UInt8} {n : Nat} (hu : RB h u l) (hv : RB h v l) :
    Fx Tryd.prog 26 #[.agg (stateC s u n).toArray, .agg (stateC s v n).toArray] h fun r h' => r = .bool true ∧ ExtH h h' := by
  refine fn_of 24 Tryd.func26 rfl (by kernel_rfl) rfl (by simp) ?_
  refine cw_seq (cw_region rfl ?_)
  obtain ⟨a1, c1, e1⟩ := hu.len
  obtain ⟨a2, c2, e2⟩ := hv.len
  subst e1 e2
  conv => whnf
  intro h1 n1
  conv => whnf
  intro h2 n2
  have y1 : Blk h2 h.size (stateC s (.slice a1 l.length c1) n) 43 := n2.ext.blk n1.blk
  have y2 : Blk h2 h1.size (stateC s (.slice a2 l.length c2) n) 43 := n2.blk
  refine cw_seq (cw_region rfl ?_)
  conv => whnf
  refine ⟨s.list.map u32v, by rfl, y1.rdN 0 _ rfl, ?_⟩
  conv => whnf
  refine ⟨s.list.map u32v, by rfl, y2.rdN 0 _ rfl, ?_⟩
  conv => whnf
  refine ⟨.bool true, fun w => (words_eq _ _ s s w).trans (by simp), ?_⟩
  conv => whnf
  refine ⟨_, y1.rd (o := 9) rfl, ?_⟩
  conv => whnf
  refine ⟨_, y2.rd (o := 9) rfl, ?_⟩
  refine ops_g (v := .bool true) (b := true) rfl rfl rfl rfl (fun k hk => ?_) ?_
  · show k (.bool ((n : Int) == (n : Int)))
    rw [beq_self_eq_true]
    exact hk
  conv => whnf
  refine ⟨_, y1.rd (o := 8) rfl, ?_⟩
  conv => whnf
  refine ⟨_, y2.rd (o := 8) rfl, ?_⟩
  conv => whnf
  have x2 := n1.ext.trans n2.ext
  refine ⟨_, rfl, _, alike_fn (hu.more x2) (hv.more x2), ?_⟩
  rintro _ h3 ⟨rfl, x3⟩
  refine cw_ret ⟨?_, x2.trans x3⟩
  rw [decide_eq_true rfl]
  rfl
end Go.Proofs.YtnjimdjojinffaaDoor
