/-
  Package sha's Write where it refuses: too many bytes.
-/
import Derived.Test.YtnjimdjojinffaaDoorShaState
import Derived.Test.YtnjimdjojinffaaDoorShaParts
namespace Go.Proofs.YtnjimdjojinffaaDoor
open Go Vm
set_option maxRecDepth 100000
theorem write_long {D : Nat → Prop} {h : Heap} {p : Nat} {v x : Value} {s : Sha.S8} {l : List UInt8} {n : Nat} {ms : List (List UInt8)} {pv : List Value} (H : HashAt h p v s l n) (hx : PD D h x ms pv)
    (hms : ms.flatten.length ≤ 100000000000000) (hn0 : n ≤ 2305843009213693951) (hn : 2305843009213693951 < n + ms.flatten.length) :
    Fx Tryd.prog 22 #[.pointer (some ⟨p, 0, none⟩), x] h fun u h' => u = .int .i64 21 ∧ h' = h := by
  refine fn_of 46 Tryd.func22 rfl (by kernel_rfl) rfl (by simp) ?_
  refine cw_seq (cw_region rfl ?_)
  refine cw_seq (cw_seq (cw_region rfl ?_))
  conv => whnf
  refine ⟨.bool false, fun w => by kernel_rfl, ?_⟩
  refine cw_false rfl (cw_skip ?_)
  refine cw_seq (cw_region rfl ?_)
  conv => whnf
  refine ⟨_, rfl, _, ready_fn (H.blk.rd rfl), ?_⟩
  rintro _ h0 ⟨rfl, e⟩
  subst h0
  conv => whnf
  refine cw_seq (cw_region rfl ?_)
  conv => whnf
  refine ⟨_, H.blk.rd (o := 10) rfl, ?_⟩
  have hlen : ms.length ≤ maxLen := by
    rcases hx.form with ⟨rfl, rfl⟩ | ⟨A, cap, rfl, hc, hm, hr⟩
    · exact Nat.zero_le _
    · omega
  have hfx : ∃ a c, x = .slice a ms.length c := by
    rcases hx.form with ⟨rfl, rfl⟩ | ⟨A, cap, rfl, hc, hm, hr⟩
    · exact ⟨_, _, rfl⟩
    · exact ⟨_, _, rfl⟩
  have hmax : maxLen < 9223372036854775808 := by decide
  obtain ⟨a, c, hfx⟩ := hfx
  refine cw_seq (cw_seq (cw_region rfl ?_))
  subst hfx
  conv => whnf
  refine cw_block ?_
  refine cw_loop (S := Nat) (fun t => [(0, .pointer (some ⟨p, 0, none⟩)), (1, .slice a ms.length c), (5, .int .u64 ((n + (upto ms t).length : Nat) : Int)), (18, .slice a ms.length c), (19, .int .i64 (ms.length : Int)), (20, .int .i64 (t : Int))])
    (fun t h' => t ≤ ms.length ∧ n + (upto ms t).length ≤ 2305843009213693951 ∧ h' = h) (fun t => ms.length - t) 0 ⟨rfl, rfl, rfl, rfl, rfl, rfl, trivial⟩ ⟨by omega, by rw [upto_zero]; exact hn0, rfl⟩ ?_
  rintro t h0 ⟨ht, hsum, e⟩
  subst h0
  refine cw_seq (cw_region rfl ?_)
  have row : ∀ {h' : Heap}, PD D h' (.slice a ms.length c) ms pv → ∀ (t : Nat), t < ms.length → ∃ b o m v, a = some ⟨b, o, none⟩ ∧ ms[t]? = some m ∧ rd h' ⟨b, o + t, none⟩ = some v ∧ RD D h' v m := fun hx t hlt => by
    obtain ⟨v, h1, h2⟩ := hx.part t ms[t] (List.getElem?_eq_getElem hlt)
    rcases hx.form with ⟨h3, h4⟩ | ⟨A, cap, h3, hc, hm, hr⟩
    · rw [h4] at hlt; simp at hlt
    · injection h3 with h3
      have hs := hr.spot (by intro e; subst e; simp at h1)
      rw [hs, rdA_plain] at hr
      exact ⟨A.block, A.off, _, v, by rw [← hs]; exact h3, List.getElem?_eq_getElem hlt, hr t v h1, h2⟩
  by_cases hlt : t < ms.length
  · refine cw_seq (cw_yes rfl (by omega) (cw_skip ?_))
    obtain ⟨b, o, m, u, rfl, hm, hr, hu⟩ := row hx t hlt
    refine cw_seq (cw_block (cw_seq (cw_region rfl ?_)))
    conv => whnf
    refine ⟨⟨by omega, by omega⟩, ?_⟩
    conv => whnf
    refine ⟨_, hr, ?_⟩
    conv => whnf
    obtain ⟨ua, uc, hue⟩ := hu.1.len
    have hsucc := upto_succ ms t m hm
    have hle := upto_le ms (t + 1)
    have hle' : (upto ms (t + 1)).length = (upto ms t).length + m.length := by rw [hsucc]; simp
    refine cw_seq (cw_region rfl ?_)
    subst hue
    conv => whnf
    have e1 := u64_in (m.length : Int) m.length rfl (by omega)
    have e2 := u64_in (((n + (upto ms t).length : Nat) : Int) + IntKind.u64.wrap (m.length : Int)) (n + (upto ms (t + 1)).length) (by rw [e1]; omega) (by omega)
    refine cw_seq (cw_region rfl ?_)
    conv => whnf
    by_cases hbig : 2305843009213693951 < n + (upto ms (t + 1)).length
    · refine cw_yes rfl (by omega) (cw_seq (cw_region rfl ?_))
      conv => whnf
      exact cw_ret ⟨rfl, rfl⟩
    · refine cw_no rfl (by omega) (cw_skip ?_)
      refine cw_region rfl ?_
      exact ⟨t + 1, ⟨rfl, rfl, congrArg (fun i => some (Value.int .u64 i)) e2, rfl, rfl, slot_i64 _ _ (by omega) (by omega), trivial⟩, ⟨by omega, by omega, rfl⟩, by omega⟩
  · have tn : t = ms.length := by omega
    subst tn
    rw [upto_all] at hsum
    omega
end Go.Proofs.YtnjimdjojinffaaDoor
