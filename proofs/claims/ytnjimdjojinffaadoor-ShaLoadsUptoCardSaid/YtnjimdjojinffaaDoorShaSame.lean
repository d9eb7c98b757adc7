/-
  The document's SameParts.
-/
import Derived.Test.YtnjimdjojinffaaDoorShaPre
namespace Go.Proofs.YtnjimdjojinffaaDoor
open Go Vm
set_option maxRecDepth 100000
theorem takes_eq {α : Type} {ms ns : List α} {t : Nat} {m : α} (hm : ms[t]? = some m) (hn : ns[t]? = some m) (h : ms.take t = ns.take t) : ms.take (t + 1) = ns.take (t + 1) := by
  rw [List.take_add_one, List.take_add_one, hm, hn, h]
theorem sameparts_fn {D E : Nat → Prop} {h : Heap} {x y : Value} {ms ns : List (List UInt8)} {pv qv : List Value} (hx : PD D h x ms pv) (hy : PD E h y ns qv) :
    Fx Tryd.prog 16 #[x, y] h fun r h' => r = .bool (decide (ms = ns)) ∧ ExtH h h' := by
  refine fn_of 27 Tryd.func16 rfl (by kernel_rfl) rfl (by simp) ?_
  obtain ⟨a, c, hfx, hlen⟩ := hx.fix
  obtain ⟨b, d, hfy, hlen2⟩ := hy.fix
  have hmax : maxLen < 9223372036854775808 := by decide
  subst hfx hfy
  refine cw_seq (cw_region rfl ?_)
  refine cw_seq (cw_seq (cw_region rfl ?_))
  conv => whnf
  by_cases hl : ms.length = ns.length
  · refine cw_bne_no rfl (by omega) (cw_skip ?_)
    refine cw_seq (cw_seq (cw_region rfl ?_))
    conv => whnf
    refine cw_block ?_
    refine cw_loop (S := Nat) (fun t => [(0, .slice a ms.length c), (1, .slice b ns.length d), (5, .int .i64 (t : Int))])
      (fun t h' => t ≤ ms.length ∧ ms.take t = ns.take t ∧ ExtH h h') (fun t => ms.length - t) 0 ⟨rfl, rfl, rfl, trivial⟩ ⟨by omega, rfl, ExtH.refl _⟩ ?_
    rintro t h1 ⟨ht, heq, x1⟩
    refine cw_seq (cw_seq (cw_region rfl ?_))
    conv => whnf
    by_cases hlt : t < ms.length
    · refine cw_yes rfl (by omega) (cw_skip ?_)
      have hx1 := hx.keep (x1.chg (S := fun _ => False)) (fun _ _ e => e)
      have hy1 := hy.keep (x1.chg (S := fun _ => False)) (fun _ _ e => e)
      obtain ⟨b1, o1, m, u, rfl, hm, hr, hu⟩ := hx1.row t hlt
      obtain ⟨b2, o2, n, v, rfl, hn, hs, hv⟩ := hy1.row t (by omega)
      refine cw_seq (cw_block (cw_seq ?_))
      refine cw_drawn (by kernel_rfl) 9 (fun _ => false) (List.range 9) (by kernel_rfl) rfl ?_
      conv => whnf
      refine ⟨⟨by omega, by omega⟩, ?_⟩
      conv => whnf
      refine ⟨_, hr, ?_⟩
      conv => whnf
      refine ⟨⟨by omega, by omega⟩, ?_⟩
      conv => whnf
      refine ⟨_, hs, ?_⟩
      conv => whnf
      refine ⟨_, rfl, _, fun h2 x2 => alike_fn (hu.1.more x2) (hv.1.more x2), ?_⟩
      conv => whnf
      intro h2 x2
      by_cases hmn : m = n
      · subst hmn
        refine cw_false (by rw [decide_eq_true rfl]; rfl) (cw_skip ?_)
        refine cw_region rfl ?_
        exact ⟨t + 1, ⟨rfl, rfl, slot_i64 _ _ (by omega) (by omega), trivial⟩, ⟨by omega, takes_eq hm hn heq, x1.trans x2⟩, by omega⟩
      · refine cw_true (by rw [decide_eq_false hmn]; rfl) ?_
        refine cw_seq (cw_region rfl ?_)
        refine cw_ret ⟨?_, x1.trans x2⟩
        have : ms ≠ ns := fun e => by subst e; rw [hm] at hn; injection hn with hn; exact hmn hn
        rw [decide_eq_false this]
        rfl
    · refine cw_no rfl (by omega) (cw_exit ?_)
      have : ms = ns := by
        rw [List.take_of_length_le (by omega), List.take_of_length_le (by omega)] at heq
        exact heq
      refine cw_seq (cw_region rfl ?_)
      refine cw_ret ⟨?_, x1⟩
      rw [decide_eq_true this]
      rfl
  · refine cw_bne_yes rfl (by omega) (cw_seq (cw_region rfl ?_))
    refine cw_ret ⟨?_, ExtH.refl _⟩
    rw [decide_eq_false (fun e => hl (by rw [e]))]
    rfl
end Go.Proofs.YtnjimdjojinffaaDoor
