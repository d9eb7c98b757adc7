/-
  An operation of the evaluator that only reads is the model's: the whole.
-/
import Derived.Test.YtdielfpgekenkaaGreatDoorJ9
namespace Go.Proofs.YtdielfpgekenkaaGreatDoor.Sx
open Go Vm
set_option linter.unusedSimpArgs false
set_option linter.unusedVariables false
section
variable {C : Cx} (hC : CxOk C) {st : St} {σ : Env} {h : Heap} {sf : SF} {fr : Fr}
theorem evk_of {x : Operand} {v : Value} (e : ev fr x = some v) (k : Value → Prop) : evk fr x k = k v := by simp only [evk, e]
theorem assert_run {P : Program} {a t : TypeId} {d : TypeDesc} (hd : P.underlying a = some d) (hni : ∀ m, d ≠ .interface m) {v : Value} (w : World) :
    (∀ u, v = .iface a u → ∀ ok, (Instr.typeAssert v t a ok).run P w = .ok (if ok then .tuple #[u, .bool true] else u) w) ∧
    (∀ i z, P.info? a = some i → i.zero = some z → (v = .nilIface ∨ ∃ t' u, v = .iface t' u ∧ t' ≠ a) → (Instr.typeAssert v t a true).run P w = .ok (.tuple #[z, .bool false]) w) := by
  constructor
  · rintro u rfl ok
    cases d <;> first
      | exact absurd rfl (hni _)
      | simp [Instr.typeAssert, run_underlying hd]
  · rintro i z hi hz (rfl | ⟨t', u, rfl, hne⟩)
    · cases d <;> first
        | exact absurd rfl (hni _)
        | simp [Instr.typeAssert, run_underlying hd, run_zero hi hz]
    · cases d <;> first
        | exact absurd rfl (hni _)
        | simp [Instr.typeAssert, run_underlying hd, run_zero hi hz, hne]
theorem iface_run {P : Program} {t : TypeId} {d : TypeDesc} (hd : P.underlying t = some d) (hni : ∀ m, d ≠ .interface m) (v : Value) (w : World) : (Instr.makeInterface t v).run P w = .ok (.iface t v) w := by
  cases d <;> first
    | exact absurd rfl (hni _)
    | simp [Instr.makeInterface, run_underlying hd]
theorem addr_add0 (b o : Nat) : (⟨b, o, none⟩ : Addr).add 0 = ⟨b, o, none⟩ := by simp [Addr.add]
theorem addr_add (b o n : Nat) : (⟨b, o, none⟩ : Addr).add n = ⟨b, o + n, none⟩ := by
  unfold Addr.add
  split
  · rename_i e; subst e; rfl
  · rfl
theorem slice_gen (hF : Frm σ sf fr) {P : Program} {o : Oper} {t el : Nat} {x : Operand} {lo hi : Option Operand} (ho : o.op = .slice t x lo hi none) {i : TypeInfo} (ht : P.underlying t = some (.slice el)) (hi' : P.info? el = some i) {A : Option Addr} {len cap a b : Nat}
    (ev1 : ev fr x = some (.slice A len cap)) (ha : bndS sf lo 0 = some a) (hb : bndS sf hi len = some b) (h1 : a ≤ b) (h2 : b ≤ cap) {R : Value} (hR : .slice (if cap = a then A else A.map (·.add (a * i.size))) (b - a) (cap - a) = R) (k : Value → Prop) (hk : k R) : Vm.opq P o fr h k := by
  unfold Vm.opq
  simp only [ho, evk_of ev1, ht, hi']
  refine bndS_ok hF ha (bndS_ok hF hb ?_)
  refine ⟨⟨by omega, by omega, by omega⟩, _, rfl, ?_⟩
  simp only [Int.toNat_natCast]
  rw [hR]
  exact hk
theorem array_gen (hF : Frm σ sf fr) {P : Program} {o : Oper} {t el n : Nat} {x : Operand} {lo hi : Option Operand} (ho : o.op = .slice t x lo hi none) {i : TypeInfo} (ht : P.underlying t = some (.array n el)) (hi' : P.info? el = some i) {A : Addr} {a b : Nat}
    (ev1 : ev fr x = some (.pointer (some A))) (ha : bndS sf lo 0 = some a) (hb : bndS sf hi n = some b) (h1 : a ≤ b) (h2 : b ≤ n) {R : Value} (hR : .slice (some (if n = a then A else A.add (a * i.size))) (b - a) (n - a) = R) (k : Value → Prop) (hk : k R) : Vm.opq P o fr h k := by
  unfold Vm.opq
  simp only [ho, evk_of ev1, ht, hi']
  refine bndS_ok hF ha (bndS_ok hF hb ?_)
  refine ⟨⟨by omega, by omega, by omega⟩, _, rfl, ?_⟩
  simp only [Int.toNat_natCast]
  rw [hR]
  exact hk
theorem slice3_gen (hF : Frm σ sf fr) {P : Program} {o : Oper} {t el : Nat} {x mx : Operand} {lo hi : Option Operand} (ho : o.op = .slice t x lo hi (some mx)) {i : TypeInfo} (ht : P.underlying t = some (.slice el)) (hi' : P.info? el = some i) {A : Option Addr} {len cap a b m : Nat}
    (ev1 : ev fr x = some (.slice A len cap)) (ha : bndS sf lo 0 = some a) (hb : bndS sf hi len = some b) (hm : bndS sf (some mx) 0 = some m) (hs : hi.isSome = true) (h1 : a ≤ b) (h2 : b ≤ m) (h3 : m ≤ cap) {R : Value} (hR : .slice (if m = a then A else A.map (·.add (a * i.size))) (b - a) (m - a) = R) (k : Value → Prop) (hk : k R) : Vm.opq P o fr h k := by
  unfold Vm.opq
  simp only [ho, evk_of ev1, ht, hi']
  refine bndS_ok hF ha (bndS_ok hF hb (bndS_ok hF hm ?_))
  refine ⟨⟨hs, by omega, by omega, by omega, by omega⟩, _, rfl, ?_⟩
  simp only [Int.toNat_natCast]
  rw [hR]
  exact hk
include hC in
theorem slice3_ok {o : Oper} {t : Nat} {x mx : Operand} {lo hi : Option Operand} (ho : o.op = .slice t x lo hi (some mx)) (hF : Frm σ sf fr) {s : SV} (e : C.opq o sf st = some s) :
    ∃ v, den σ s = some v ∧ ∀ k : Value → Prop, k v → Vm.opq C.P o fr h k := by
  unfold Cx.opq at e
  simp only [ho, Option.bind_eq_some_iff] at e
  obtain ⟨sv, hx, e⟩ := e
  obtain ⟨v, ev1, d1⟩ := evO_ok hF hx
  rw [hC.und] at e
  split at e
  · rename_i el id off len cap ht
    simp only [Option.bind_eq_some_iff] at e
    obtain ⟨n, hn, a, ha, b, hb, m, hm, e⟩ := e
    obtain ⟨i, hi, rfl⟩ := hC.size hn
    split at e
    · rename_i hab
      obtain ⟨hs, h1, h2, h3⟩ := hab
      cases e
      obtain ⟨q, hq, hc, rfl⟩ := den_sl d1
      refine ⟨_, ?_, slice3_gen hF ho ht hi ev1 ha hb hm hs h1 h2 h3 rfl⟩
      simp only [den]
      rw [if_pos ⟨by omega, by omega⟩, hq]
      simp only [Option.map_some, addr_add]
      congr 2
      split <;> rfl
    · cases e
  · rename_i el id off eo len ht
    simp only [Option.bind_eq_some_iff] at e
    obtain ⟨n, hn, a, ha, b, hb, m, hm, e⟩ := e
    obtain ⟨i, hi, rfl⟩ := hC.size hn
    obtain ⟨q, hq, hc, rfl⟩ := den_sg d1
    split at e
    · rename_i hab
      obtain ⟨hs, h1, h2, h3⟩ := hab
      cases e
      refine ⟨_, ?_, slice3_gen hF ho ht hi ev1 ha hb hm hs h1 h2 (by omega) rfl⟩
      simp only [den]
      rw [if_pos ⟨by omega, by omega⟩, hq]
      simp only [Option.map_some, addr_add]
      congr 2
      split <;> rfl
    · cases e
  · cases e
include hC in
theorem slice_ok {o : Oper} {t : Nat} {x : Operand} {lo hi : Option Operand} (ho : o.op = .slice t x lo hi none) (hF : Frm σ sf fr) (hO : Obs st σ h) {s : SV} (e : C.opq o sf st = some s) :
    ∃ v, den σ s = some v ∧ ∀ k : Value → Prop, k v → Vm.opq C.P o fr h k := by
  unfold Cx.opq at e
  simp only [ho, Option.bind_eq_some_iff] at e
  obtain ⟨sv, hx, e⟩ := e
  obtain ⟨v, ev1, d1⟩ := evO_ok hF hx
  rw [hC.und] at e
  split at e
  · rename_i l ht
    simp only [Option.bind_eq_some_iff] at e
    obtain ⟨a, ha, b, hb, e⟩ := e
    split at e
    · rename_i hab
      cases e
      obtain ⟨al, rfl⟩ := den_s d1
      refine ⟨_, den_str (all_cut al a (b - a)), fun k hk => ?_⟩
      unfold Vm.opq
      simp only [ho, evk_of ev1, ht]
      refine bndS_ok hF ha (bndS_ok hF (d := l.length) hb ?_ |> fun H => by rw [bytesOf_size]; exact H)
      refine ⟨⟨by omega, by omega, by omega⟩, ?_⟩
      rw [Int.toNat_natCast, Int.toNat_natCast, bytesOf_cut]
      exact hk
    · cases e
  · rename_i el ht
    simp only [Option.bind_eq_some_iff] at e
    obtain ⟨n, hn, a, ha, b, hb, e⟩ := e
    obtain ⟨i, hi, rfl⟩ := hC.size hn
    split at e
    · rename_i hab
      obtain ⟨rfl, rfl⟩ := hab
      cases e
      rw [den_sn d1] at ev1
      exact ⟨.slice none 0 0, by simp only [den], slice_gen hF ho ht hi ev1 ha hb (Nat.le_refl _) (Nat.le_refl _) (by simp)⟩
    · cases e
  · rename_i el id off len cap ht
    simp only [Option.bind_eq_some_iff] at e
    obtain ⟨n, hn, a, ha, b, hb, e⟩ := e
    obtain ⟨i, hi, rfl⟩ := hC.size hn
    split at e
    · rename_i hab
      cases e
      obtain ⟨q, hq, hc, rfl⟩ := den_sl d1
      refine ⟨_, ?_, slice_gen hF ho ht hi ev1 ha hb hab.1 hab.2 rfl⟩
      simp only [den]
      rw [if_pos ⟨by omega, by omega⟩, hq]
      simp only [Option.map_some, addr_add]
      congr 2
      split <;> rfl
    · cases e
  · rename_i el id off eo len ht
    simp only [Option.bind_eq_some_iff] at e
    obtain ⟨n, hn, a, ha, b, hb, e⟩ := e
    obtain ⟨i, hi, rfl⟩ := hC.size hn
    obtain ⟨q, hq, hc, rfl⟩ := den_sg d1
    split at e
    · rename_i hab
      split at e
      · rename_i h0
        cases e
        refine ⟨_, ?_, slice_gen hF ho ht hi ev1 ha hb hab.1 (by omega) rfl⟩
        simp only [den, hq, Option.bind_some]
        rw [if_pos ⟨by omega, by omega⟩]
        simp only [Option.map_some, addr_add]
        congr 2
        · split
          · rename_i e0
            have : a = 0 := by omega
            subst this; simp
          · rfl
        · omega
      · rename_i h0
        cases e
        refine ⟨_, ?_, slice_gen hF ho ht hi ev1 ha hb hab.1 (by omega) rfl⟩
        simp only [den, hq, Option.bind_some]
        rw [if_pos ⟨by omega, by omega⟩]
        simp only [Option.map_some, addr_add]
        have : b - a = 0 := by omega
        rw [this]
        congr 2
        split <;> rfl
    · simp only [Option.bind_eq_some_iff] at e
      obtain ⟨⟨l, t', g⟩, hr, e⟩ := e
      split at e
      · rename_i hab
        obtain ⟨h1, h2, h3, h4, h5⟩ := hab
        cases e
        obtain ⟨q', vs, tl, hq', hvs, _, _, hg⟩ := row_rd hO hr
        rw [hq] at hq'; cases hq'
        simp only at h2
        subst h2
        obtain ⟨g1, g2⟩ := hg
        have e2 := denL_length _ _ hvs
        simp only [List.length_append] at g1
        have hle : eo + b ≤ q.2 := by
          have h6 : (eo + b) * i.size ≤ q.2 * i.size := by
            rw [← g1, Nat.add_mul, ← h3]
            simp only at h5
            omega
          exact Nat.le_of_mul_le_mul_right h6 h4
        refine ⟨_, ?_, slice_gen hF ho ht hi ev1 ha hb (by omega) (by omega) rfl⟩
        simp only [den, hq, Option.bind_some]
        rw [if_pos ⟨by omega, by omega⟩]
        simp only [Option.map_some, addr_add]
        congr 2
        · split
          · omega
          · rfl
        · omega
      · cases e
  · rename_i el id off d eo x' ht
    simp only [Option.bind_eq_some_iff] at e
    obtain ⟨n, hn, a, ha, b, hb, e⟩ := e
    obtain ⟨i, hi, rfl⟩ := hC.size hn
    obtain ⟨q, hq, hc, rfl⟩ := den_se d1
    split at e
    · rename_i hab
      obtain ⟨rfl, rfl⟩ := hab
      cases e
      exact ⟨_, d1, slice_gen hF ho ht hi ev1 ha hb (Nat.le_refl _) (Nat.zero_le _) (by simp [addr_add0])⟩
    · cases e
  · rename_i n' el id off ht
    simp only [Option.bind_eq_some_iff] at e
    obtain ⟨n, hn, a, ha, b, hb, e⟩ := e
    obtain ⟨i, hi, rfl⟩ := hC.size hn
    obtain ⟨q, hq, rfl⟩ := den_p d1
    split at e
    · rename_i hab
      split at e
      · rename_i hm
        cases e
        refine ⟨_, ?_, array_gen hF ho ht hi ev1 ha hb hab.1 hab.2 rfl⟩
        simp only [den]
        rw [if_pos ⟨by omega, by simp only [maxLen]; omega⟩, hq]
        simp only [Option.map_some, addr_add]
        congr 3
        split <;> rfl
      · cases e
    · cases e
  · cases e
theorem den_tup {l : List SV} {v : Value} (e : den σ (.tup l) = some v) : ∃ vs, denL σ l = some vs ∧ v = .tuple vs.toArray := by
  simp only [den, Option.map_eq_some_iff] at e
  obtain ⟨vs, h1, rfl⟩ := e
  exact ⟨vs, h1, rfl⟩
theorem den_agg {l : List SV} {v : Value} (e : den σ (.agg l) = some v) : ∃ vs, denL σ l = some vs ∧ v = .agg vs.toArray := by
  simp only [den, Option.map_eq_some_iff] at e
  obtain ⟨vs, h1, rfl⟩ := e
  exact ⟨vs, h1, rfl⟩
theorem den_p_of {a o : Nat} {q : Nat × Nat} (hq : σ a = some q) : den σ (.p a o) = some (.pointer (some ⟨q.1, o, none⟩)) := by simp only [den, hq, Option.map_some]
include hC in
theorem opq_ok (hF : Frm σ sf fr) (hO : Obs st σ h) {o : Oper} {s : SV} (e : C.opq o sf st = some s) : ∃ v, den σ s = some v ∧ ∀ k : Value → Prop, k v → Vm.opq C.P o fr h k := by
  have e0 := e
  unfold Cx.opq at e
  split at e
  · rename_i x ho
    obtain ⟨v, h1, h2⟩ := evO_ok hF e
    exact ⟨v, h2, fun k hk => by unfold Vm.opq; simp only [ho, evk_of h1]; exact hk⟩
  · rename_i x ho
    obtain ⟨v, h1, h2⟩ := evO_ok hF e
    exact ⟨v, h2, fun k hk => by unfold Vm.opq; simp only [ho, evk_of h1]; exact hk⟩
  · rename_i c a b ho
    simp only [Option.bind_eq_some_iff] at e
    obtain ⟨cs, hc, e⟩ := e
    obtain ⟨cv, c1, c2⟩ := evO_ok hF hc
    split at e
    · obtain ⟨v, h1, h2⟩ := evO_ok hF e
      rw [den_b c2] at c1
      exact ⟨v, h2, fun k hk => by unfold Vm.opq; simp only [ho, evk_of c1, evk_of h1]; exact hk⟩
    · obtain ⟨v, h1, h2⟩ := evO_ok hF e
      rw [den_b c2] at c1
      exact ⟨v, h2, fun k hk => by unfold Vm.opq; simp only [ho, evk_of c1, evk_of h1]; exact hk⟩
    · cases e
  · rename_i x ho
    simp only [Option.bind_eq_some_iff] at e
    obtain ⟨cs, hc, e⟩ := e
    obtain ⟨cv, c1, c2⟩ := evO_ok hF hc
    split at e
    · cases e
      obtain ⟨q, hq, rfl⟩ := den_p c2
      exact ⟨_, c2, fun k hk => by unfold Vm.opq; simp only [ho, evk_of c1]; exact hk⟩
    · cases e
      obtain ⟨x, y, h1, h2, rfl⟩ := den_f c2
      exact ⟨_, c2, fun k hk => by unfold Vm.opq; simp only [ho, evk_of c1]; exact hk⟩
    · cases e
  · rename_i op t x y yt ho
    simp only [Option.bind_eq_some_iff] at e
    obtain ⟨a, ha, b, hb, e⟩ := e
    obtain ⟨u, a1, a2⟩ := evO_ok hF ha
    obtain ⟨w, b1, b2⟩ := evO_ok hF hb
    obtain ⟨r, h1, h2⟩ := binS_ok hC e a2 b2
    exact ⟨r, h1, fun k hk => by unfold Vm.opq; simp only [ho, evk_of a1, evk_of b1]; exact h2 k hk⟩
  · rename_i op t x ho
    simp only [Option.bind_eq_some_iff] at e
    obtain ⟨a, ha, e⟩ := e
    obtain ⟨u, a1, a2⟩ := evO_ok hF ha
    split at e
    · cases e
      rw [den_i a2] at a1
      exact ⟨_, rfl, fun k hk => by unfold Vm.opq; simp only [ho, evk_of a1]; exact hk⟩
    · cases e
      rw [den_i a2] at a1
      exact ⟨_, rfl, fun k hk => by unfold Vm.opq; simp only [ho, evk_of a1]; exact hk⟩
    · cases e
      rw [den_b a2] at a1
      exact ⟨_, rfl, fun k hk => by unfold Vm.opq; simp only [ho, evk_of a1]; exact hk⟩
    · cases e
  · rename_i sT tT x ho
    simp only [Option.bind_eq_some_iff] at e
    obtain ⟨a, ha, e⟩ := e
    obtain ⟨u, a1, a2⟩ := evO_ok hF ha
    simp only [hC.und] at e
    split at e
    · rename_i hs ht
      cases e
      rw [den_i a2] at a1
      exact ⟨_, rfl, fun k hk => by unfold Vm.opq; simp only [ho, evk_of a1, hs, ht]; exact hk⟩
    · rename_i hs ht
      cases e
      obtain ⟨al, rfl⟩ := den_s a2
      exact ⟨_, a2, fun k hk => by unfold Vm.opq; simp only [ho, evk_of a1, hs, ht]; exact hk⟩
    · cases e
  · rename_i sT x i ho
    simp only [Option.bind_eq_some_iff] at e
    obtain ⟨a, ha, e⟩ := e
    obtain ⟨u, a1, a2⟩ := evO_ok hF ha
    split at e
    · simp only [Option.bind_eq_some_iff] at e
      obtain ⟨f, hf, n, hn, e⟩ := e
      obtain ⟨fs, hs, hfs⟩ := fieldOf_ok hC hf
      obtain ⟨inf, hi, rfl⟩ := hC.size hn
      split at e
      · cases e
      · rename_i h0
        cases e
        obtain ⟨q, hq, rfl⟩ := den_p a2
        exact ⟨_, den_p_of hq, fun k hk => by unfold Vm.opq; simp only [ho, evk_of a1, hs, hfs, hi, h0, if_false]; exact addk_ok hk⟩
    · cases e
  · rename_i t x i ho
    simp only [Option.bind_eq_some_iff] at e
    obtain ⟨a, ha, e⟩ := e
    obtain ⟨u, a1, a2⟩ := evO_ok hF ha
    split at e
    · simp only [Option.bind_eq_some_iff] at e
      obtain ⟨f, hf, e⟩ := e
      obtain ⟨fs, hs, hfs⟩ := fieldOf_ok hC hf
      obtain ⟨vs, hv, rfl⟩ := den_agg a2
      obtain ⟨r, h1, h2⟩ := partS_ok hC e hv
      exact ⟨r, h1, fun k hk => by unfold Vm.opq; simp only [ho, evk_of a1, hs, hfs]; exact h2 k hk⟩
    · cases e
  · rename_i t x i ho
    simp only [Option.bind_eq_some_iff] at e
    obtain ⟨a, ha, iv, hi, e⟩ := e
    obtain ⟨u, a1, a2⟩ := evO_ok hF ha
    obtain ⟨w, b1, b2⟩ := evO_ok hF hi
    split at e
    · rename_i kd n
      have := den_i b2; subst this
      rw [hC.und] at e
      split at e
      · rename_i ht
        simp only [Option.bind_eq_some_iff] at e
        obtain ⟨z, hz, e⟩ := e
        obtain ⟨inf, hin, rfl⟩ := hC.size hz
        split at e
        · rename_i hn
          cases e
          obtain ⟨q, hq, rfl⟩ := den_p a2
          exact ⟨_, den_p_of hq, fun k hk => by
            unfold Vm.opq; simp only [ho, evk_of a1, evk_of b1, ht, hin]
            exact ⟨⟨Int.natCast_nonneg _, by simpa using hn⟩, addi_ok hk⟩⟩
        · cases e
      · rename_i ht
        simp only [Option.bind_eq_some_iff] at e
        obtain ⟨z, hz, e⟩ := e
        obtain ⟨inf, hin, rfl⟩ := hC.size hz
        split at e
        · rename_i hn
          cases e
          obtain ⟨q, hq, hc, rfl⟩ := den_sl a2
          exact ⟨_, den_p_of hq, fun k hk => by
            unfold Vm.opq; simp only [ho, evk_of a1, evk_of b1, ht, hin]
            exact ⟨⟨Int.natCast_nonneg _, by simpa using hn⟩, addi_ok hk⟩⟩
        · cases e
      · rename_i ht
        simp only [Option.bind_eq_some_iff] at e
        obtain ⟨z, hz, e⟩ := e
        obtain ⟨inf, hin, rfl⟩ := hC.size hz
        split at e
        · rename_i hn
          cases e
          obtain ⟨q, hq, hc, rfl⟩ := den_sg a2
          exact ⟨_, den_p_of hq, fun k hk => by
            unfold Vm.opq; simp only [ho, evk_of a1, evk_of b1, ht, hin]
            exact ⟨⟨Int.natCast_nonneg _, by simpa using hn⟩, addi_ok hk⟩⟩
        · cases e
      · cases e
    · cases e
  · rename_i t x i ho
    simp only [Option.bind_eq_some_iff] at e
    obtain ⟨a, ha, iv, hi, e⟩ := e
    obtain ⟨u, a1, a2⟩ := evO_ok hF ha
    obtain ⟨w, b1, b2⟩ := evO_ok hF hi
    split at e
    · rename_i kd n
      have := den_i b2; subst this
      rw [hC.und] at e
      split at e
      · rename_i ht
        simp only [Option.bind_eq_some_iff] at e
        obtain ⟨z, hz, e⟩ := e
        obtain ⟨inf, hin, rfl⟩ := hC.size hz
        split at e
        · rename_i hn
          obtain ⟨vs, hv, rfl⟩ := den_agg a2
          obtain ⟨r, h1, h2⟩ := partS_ok hC e hv
          exact ⟨r, h1, fun k hk => by
            unfold Vm.opq; simp only [ho, evk_of a1, evk_of b1, ht, hin]
            exact ⟨⟨Int.natCast_nonneg _, by simpa using hn⟩, h2 k hk⟩⟩
        · cases e
      · rename_i l ht
        simp only [Option.map_eq_some_iff] at e
        obtain ⟨b, hb, rfl⟩ := e
        obtain ⟨al, rfl⟩ := den_s a2
        obtain ⟨g1, g2⟩ := bytesOf_get al hb
        exact ⟨.int .u8 (Int.ofNat b), rfl, fun k hk => by
            unfold Vm.opq; simp only [ho, evk_of a1, evk_of b1, ht]
            exact ⟨_, ⟨Int.natCast_nonneg _, g1⟩, by rw [g2]; exact hk⟩⟩
      · cases e
    · cases e
  · rename_i x i ho
    simp only [Option.bind_eq_some_iff] at e
    obtain ⟨a, ha, e⟩ := e
    obtain ⟨u, a1, a2⟩ := evO_ok hF ha
    split at e
    · obtain ⟨vs, hv, rfl⟩ := den_tup a2
      obtain ⟨r, h1, h2⟩ := denL_get _ _ _ _ hv e
      have h2' : vs.toArray[i]? = some r := by simpa using h2
      exact ⟨r, h1, fun k hk => by unfold Vm.opq; simp only [ho, evk_of a1, h2']; exact hk⟩
    · cases e
  · rename_i t x ho
    simp only [Option.bind_eq_some_iff] at e
    obtain ⟨a, ha, e⟩ := e
    obtain ⟨u, a1, a2⟩ := evO_ok hF ha
    split at e
    · obtain ⟨q, v, hq, hv, hk⟩ := loadS_ok hC hO e
      obtain ⟨q', hq', rfl⟩ := den_p a2
      rw [hq] at hq'; cases hq'
      exact ⟨v, hv, fun k h => by unfold Vm.opq; simp only [ho, evk_of a1]; exact hk k h⟩
    · cases e
  · rename_i t x lo hi ho
    exact slice_ok hC ho hF hO e0
  · rename_i t x lo hi mx ho
    exact slice3_ok hC ho hF e0
  · rename_i T x ho
    simp only [Option.bind_eq_some_iff] at e
    obtain ⟨a, ha, e⟩ := e
    obtain ⟨u, a1, a2⟩ := evO_ok hF ha
    rw [hC.und] at e
    split at e
    · rename_i ht
      split at e
      · rename_i hn
        cases e
        obtain ⟨q, hq, hc, rfl⟩ := den_sl a2
        exact ⟨_, den_p_of hq, fun k hk => by unfold Vm.opq; simp only [ho, evk_of a1, ht]; exact ⟨hn, hk⟩⟩
      · cases e
    · rename_i ht
      split at e
      · rename_i hn
        cases e
        obtain ⟨q, hq, hc, rfl⟩ := den_sg a2
        exact ⟨_, den_p_of hq, fun k hk => by unfold Vm.opq; simp only [ho, evk_of a1, ht]; exact ⟨hn, hk⟩⟩
      · cases e
    · cases e
  · rename_i c ho
    split at e
    · rename_i hcb
      split at e
      · rename_i x T hx hT
        simp only [Option.bind_eq_some_iff] at e
        obtain ⟨a, ha, e⟩ := e
        obtain ⟨u, a1, a2⟩ := evO_ok hF ha
        have hx0 : c.args[0]? = some x := by rw [← Array.getElem?_toList, hx]; rfl
        have hT0 : c.argTypes[0]? = some T := by rw [← Array.getElem?_toList, hT]; rfl
        rw [hC.und] at e
        split at e
        · rename_i l ht
          cases e
          obtain ⟨al, rfl⟩ := den_s a2
          exact ⟨.int .i64 (Int.ofNat l.length), rfl, fun k hk => by
            unfold Vm.opq lenq; simp only [ho, hcb, hx0, hT0, evk_of a1, ht, bytesOf_size]; exact hk⟩
        · rename_i ht
          simp only [Option.map_eq_some_iff] at e
          obtain ⟨n, hn, rfl⟩ := e
          obtain ⟨A, cp, rfl, _⟩ := lenS_ok hn a2
          exact ⟨.int .i64 (Int.ofNat n), rfl, fun k hk => by
            unfold Vm.opq lenq; simp only [ho, hcb, hx0, hT0, evk_of a1, ht]; exact hk⟩
        · rename_i kt et ht
          simp only [Option.map_eq_some_iff] at e
          obtain ⟨es, he, rfl⟩ := e
          exact ⟨.int .i64 (Int.ofNat es.length), rfl, fun k hk => by
            unfold Vm.opq lenq; simp only [ho, hcb, hx0, hT0, evk_of a1, ht]; exact ⟨_, lenM_ok hO ht he a2, hk⟩⟩
        · cases e
      · cases e
    · cases e
  · rename_i t parts ho
    simp only [Option.bind_eq_some_iff] at e
    obtain ⟨ps, hp, e⟩ := e
    obtain ⟨vs, p1, p2⟩ := evPs_ok hF _ _ hp
    obtain ⟨c, h1, h2⟩ := buildS_ok hC e p2
    exact ⟨_, h1, fun k hk => by unfold Vm.opq; simp only [ho]; exact ⟨vs, p1, c, h2, hk⟩⟩
  · rename_i t x ix ok ho
    simp only [Option.bind_eq_some_iff] at e
    obtain ⟨a, ha, iv, hi, e⟩ := e
    obtain ⟨u, a1, a2⟩ := evO_ok hF ha
    obtain ⟨w, b1, b2⟩ := evO_ok hF hi
    rw [hC.und] at e
    split at e
    · rename_i kt et ht
      split at e
      · rename_i hk
        simp only [Option.bind_eq_some_iff] at e
        obtain ⟨es, he, r, hr, e⟩ := e
        obtain ⟨v, h1, h2⟩ := lookup_ok hC hO ht hk he hr e a2 b2
        exact ⟨v, h1, fun k hk => by unfold Vm.opq; simp only [ho, evk_of a1, evk_of b1]; exact ⟨v, h2, hk⟩⟩
      · cases e
    · cases e
  · rename_i t x ho
    simp only [Option.bind_eq_some_iff] at e
    obtain ⟨a, ha, e⟩ := e
    obtain ⟨u, a1, a2⟩ := evO_ok hF ha
    rw [hC.und] at e
    split at e
    · cases e
    · rename_i d hni ht
      cases e
      exact ⟨.iface t u, by simp only [den, a2, Option.map_some], fun k hk => by
        unfold Vm.opq; simp only [ho, evk_of a1]; exact ⟨_, fun w => iface_run ht (fun m e => hni m e) u w, hk⟩⟩
    · cases e
  · rename_i x t ay ok ho
    simp only [Option.bind_eq_some_iff] at e
    obtain ⟨a, ha, e⟩ := e
    obtain ⟨u, a1, a2⟩ := evO_ok hF ha
    rw [hC.und] at e
    split at e
    · cases e
    · rename_i d hni ht
      have hni' : ∀ m, d ≠ .interface m := fun m e => hni m e
      have tupz : ∀ z zv, den σ z = some zv → den σ (.tup [z, .b false]) = some (.tuple #[zv, .bool false]) := fun z zv hz => by simp [den, denL, hz]
      split at e
      · split at e
        · rename_i hok
          subst hok
          simp only [Option.map_eq_some_iff] at e
          obtain ⟨z, hz, rfl⟩ := e
          obtain ⟨i, zv, hi, hzv, hd⟩ := zero_ok hC hz
          rw [den_nifc a2] at a1
          exact ⟨_, tupz _ _ hd, fun k hk => by
            unfold Vm.opq; simp only [ho, evk_of a1]; exact ⟨_, fun w => (assert_run ht hni' w).2 i zv hi hzv (.inl rfl), hk⟩⟩
        · cases e
      · rename_i t' w'
        obtain ⟨uv, hu, rfl⟩ := den_ifc a2
        split at e
        · rename_i ht'
          subst ht'
          cases e
          refine ⟨if ok then .tuple #[uv, .bool true] else uv, ?_, fun k hk => by
            unfold Vm.opq; simp only [ho, evk_of a1]; exact ⟨_, fun w => (assert_run ht hni' w).1 uv rfl ok, hk⟩⟩
          cases ok with
          | true => simp [den, denL, hu]
          | false => simpa using hu
        · rename_i hne
          split at e
          · rename_i hok
            subst hok
            simp only [Option.map_eq_some_iff] at e
            obtain ⟨z, hz, rfl⟩ := e
            obtain ⟨i, zv, hi, hzv, hd⟩ := zero_ok hC hz
            exact ⟨_, tupz _ _ hd, fun k hk => by
              unfold Vm.opq; simp only [ho, evk_of a1]; exact ⟨_, fun w => (assert_run ht hni' w).2 i zv hi hzv (.inr ⟨t', uv, rfl, hne⟩), hk⟩⟩
          · cases e
      · cases e
    · cases e
  · rename_i g first cap ho
    simp only [Option.bind_eq_some_iff, Option.map_eq_some_iff] at e
    obtain ⟨a, ha, c, hc, rfl⟩ := e
    obtain ⟨vs, a1, a2⟩ := evOs_ok hF _ _ ha
    obtain ⟨us, b1, b2⟩ := evOs_ok hF _ _ hc
    exact ⟨.func (.func g) vs.toArray us.toArray, by simp only [den, a2, b2, Option.bind_some, Option.map_some], fun k hk => by
      unfold Vm.opq; simp only [ho]; exact ⟨vs, a1, us, b1, hk⟩⟩
  · cases e
end
end Go.Proofs.YtdielfpgekenkaaGreatDoor.Sx
