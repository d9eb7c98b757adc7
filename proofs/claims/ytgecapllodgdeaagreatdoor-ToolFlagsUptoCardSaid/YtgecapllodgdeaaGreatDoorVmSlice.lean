/-
  Slices: one that is read, one of our own that is appended to; what append comes to.
-/
import Derived.Test.YtgecapllodgdeaaGreatDoorVmCode
namespace Go.Proofs.YtgecapllodgdeaaGreatDoor.Vm
open Go
/-- h' is h with new blocks, and other contents in the blocks of S -/
structure Chg (S : Nat → Prop) (h h' : Heap) : Prop where
  size : h.size ≤ h'.size
  block : ∀ b, b < h.size → ¬ S b → h'[b]? = h[b]?
theorem ExtH.chg {S : Nat → Prop} {h h' : Heap} (e : ExtH h h') : Chg S h h' := ⟨e.size, fun b hb _ => e.block b hb⟩
theorem Chg.ext {S : Nat → Prop} {h h' : Heap} (c : Chg S h h') (hS : ∀ b, S b → h.size ≤ b) : ExtH h h' := ⟨c.size, fun b hb => c.block b hb (fun hs => by have := hS b hs; omega)⟩
theorem Chg.trans {S T : Nat → Prop} {a b c : Heap} (x : Chg S a b) (y : Chg T b c) : Chg (fun k => S k ∨ T k) a c :=
  ⟨Nat.le_trans x.size y.size, fun k hk hn => (y.block k (Nat.lt_of_lt_of_le hk x.size) (fun ht => hn (.inr ht))).trans (x.block k hk (fun hs => hn (.inl hs)))⟩
theorem Chg.mono {S T : Nat → Prop} {a b : Heap} (x : Chg S a b) (hS : ∀ k, k < a.size → S k → T k) : Chg T a b := ⟨x.size, fun k hk hn => x.block k hk (fun hs => hn (hS k hk hs))⟩
theorem Wrote.chg {h h' : Heap} {b : Nat} {l : List Value} {t : TypeId} (w : Wrote h h' b l t) : Chg (fun k => k = b) h h' := ⟨by rw [w.size]; exact Nat.le_refl _, fun k _ hn => w.block k hn⟩
theorem Chg.blk {S : Nat → Prop} {h h' : Heap} (c : Chg S h h') {b : Nat} {l : List Value} {t : TypeId} (hb : Blk h b l t) (hn : ¬ S b) : Blk h' b l t := (c.block b hb.lt hn).trans hb
theorem Chg.rd {S : Nat → Prop} {h h' : Heap} (c : Chg S h h') {a : Addr} {v : Value} (hr : rd h a = some v) (hn : ¬ S a.block) : Vm.rd h' a = some v := by
  have := c.block a.block (rd_lt hr) hn
  unfold Vm.rd at *
  rw [this]
  exact hr
theorem Chg.rdN {S : Nat → Prop} {h h' : Heap} (c : Chg S h h') {b o : Nat} {vs : List Value} (hr : rdN h b o vs) (hn : ¬ S b) : Vm.rdN h' b o vs := fun j v hj => c.rd (hr j v hj) hn
theorem add_none (b o n : Nat) : (⟨b, o, none⟩ : Addr).add n = ⟨b, o + n, none⟩ := by unfold Addr.add; split <;> simp_all
theorem add_add (A : Addr) (i j : Nat) : (A.add i).add j = A.add (i + j) := by
  unfold Addr.add
  by_cases hi : i = 0
  · subst hi; simp
  · by_cases hj : j = 0
    · subst hj; simp
    · simp [hi, hj]; omega
/-- the cells from an address on -/
def rdA (h : Heap) (A : Addr) (vs : List Value) : Prop := ∀ (j : Nat) (v : Value), vs[j]? = some v → Vm.rd h (A.add j) = some v
theorem rdA_plain {h : Heap} {b o : Nat} {vs : List Value} : rdA h ⟨b, o, none⟩ vs ↔ Vm.rdN h b o vs := by
  unfold rdA Vm.rdN
  constructor
  · intro H j v hj; have := H j v hj; rwa [add_none] at this
  · intro H j v hj; rw [add_none]; exact H j v hj
theorem rdA.spot {h : Heap} {A : Addr} {vs : List Value} (H : rdA h A vs) (hne : vs ≠ []) : A = ⟨A.block, A.off, none⟩ := by
  cases vs with
  | nil => exact absurd rfl hne
  | cons x vs =>
    have := H 0 x rfl
    obtain ⟨b, o, spot⟩ := A
    cases spot with
    | none => rfl
    | some q =>
      unfold Vm.rd Addr.add at this
      simp only [if_true] at this
      split at this
      · simp at this
      · cases this
theorem rdA.keep {S : Nat → Prop} {h h' : Heap} {A : Addr} {vs : List Value} (H : rdA h A vs) (c : Chg S h h') (hn : ¬ S A.block) : rdA h' A vs := fun j v hj => c.rd (H j v hj) (by
  have : (A.add j).block = A.block := by unfold Addr.add; split <;> rfl
  rwa [this])
/-- a slice that is read: n elements of k cells each, the cells xs -/
def Src (h : Heap) (k : Nat) (v : Value) (n : Nat) (xs : List Value) : Prop :=
  xs.length = n * k ∧ ((v = .slice none 0 0 ∧ n = 0) ∨ ∃ A cap, v = .slice (some A) n cap ∧ n ≤ cap ∧ cap ≤ maxLen ∧ rdA h A xs)
/-- a slice of our own: it begins its block -/
def OwnS (h : Heap) (e : TypeId) (k : Nat) (v : Value) (n : Nat) (xs : List Value) : Prop :=
  xs.length = n * k ∧ ((v = .slice none 0 0 ∧ n = 0) ∨ ∃ g cap tl, v = .slice (some ⟨g, 0, none⟩) n cap ∧ Blk h g (xs ++ tl) e ∧ n ≤ cap ∧ cap ≤ maxLen ∧ (xs ++ tl).length = cap * k)
/-- whose block is it -/
def ob (v : Value) (b : Nat) : Prop := ∃ o n c, v = .slice (some ⟨b, o, none⟩) n c
theorem ob_nil {b : Nat} : ¬ ob (.slice none 0 0) b := by rintro ⟨_, _, _, h⟩; simp at h
theorem ob_slice {b o n c d : Nat} : ob (.slice (some ⟨b, o, none⟩) n c) d ↔ d = b := by
  constructor
  · rintro ⟨o', n', c', h⟩; simp at h; exact h.1.1.symm
  · rintro rfl; exact ⟨_, _, _, rfl⟩
theorem OwnS.src {h : Heap} {e : TypeId} {k : Nat} {v : Value} {n : Nat} {xs : List Value} (H : OwnS h e k v n xs) : Src h k v n xs := by
  refine ⟨H.1, ?_⟩
  rcases H.2 with hn | ⟨g, cap, tl, rfl, hb, hc, hm, hl⟩
  · exact .inl hn
  · exact .inr ⟨_, cap, rfl, hc, hm, rdA_plain.2 (hb.rdN 0 xs (by simp))⟩
theorem OwnS.nil (h : Heap) (e : TypeId) (k : Nat) : OwnS h e k (.slice none 0 0) 0 [] := ⟨by simp, .inl ⟨rfl, rfl⟩⟩
theorem OwnS.lt {h : Heap} {e : TypeId} {k : Nat} {v : Value} {n : Nat} {xs : List Value} (H : OwnS h e k v n xs) {b : Nat} (hb : ob v b) : b < h.size := by
  rcases H.2 with ⟨rfl, _⟩ | ⟨g, cap, tl, rfl, hg, _⟩
  · exact (ob_nil hb).elim
  · rw [ob_slice] at hb; subst hb; exact hg.lt
/-- another type's block is another block -/
theorem OwnS.ne {h : Heap} {e : TypeId} {k : Nat} {v : Value} {n : Nat} {xs : List Value} (H : OwnS h e k v n xs) {p : Nat} {l : List Value} {t : TypeId} (hp : Blk h p l t) (ht : t ≠ e) : ¬ ob v p := by
  intro hb
  rcases H.2 with ⟨rfl, _⟩ | ⟨g, cap, tl, rfl, hg, _⟩
  · exact ob_nil hb
  · rw [ob_slice] at hb; subst hb
    unfold Blk at *
    rw [hp] at hg
    injection hg with hg
    injection hg with _ h2
    exact ht h2
theorem OwnS.keep {S : Nat → Prop} {h h' : Heap} {e : TypeId} {k : Nat} {v : Value} {n : Nat} {xs : List Value} (H : OwnS h e k v n xs) (c : Chg S h h') (hn : ∀ b, ob v b → ¬ S b) : OwnS h' e k v n xs := by
  refine ⟨H.1, ?_⟩
  rcases H.2 with h0 | ⟨g, cap, tl, rfl, hg, r⟩
  · exact .inl h0
  · exact .inr ⟨g, cap, tl, rfl, c.blk hg (hn g (ob_slice.2 rfl)), r⟩
theorem OwnS.more {h h' : Heap} {e : TypeId} {k : Nat} {v : Value} {n : Nat} {xs : List Value} (H : OwnS h e k v n xs) (c : ExtH h h') : OwnS h' e k v n xs :=
  H.keep (S := fun _ => False) c.chg (fun _ _ h => h)
theorem Src.keep {S : Nat → Prop} {h h' : Heap} {k : Nat} {v : Value} {n : Nat} {xs : List Value} (H : Src h k v n xs) (c : Chg S h h') (hn : ∀ b, ob v b → ¬ S b) : Src h' k v n xs := by
  refine ⟨H.1, ?_⟩
  rcases H.2 with h0 | ⟨A, cap, rfl, hc, hm, hr⟩
  · exact .inl h0
  · refine .inr ⟨A, cap, rfl, hc, hm, ?_⟩
    by_cases hx : xs = []
    · subst hx; intro j v hj; simp at hj
    · have hs := hr.spot hx
      exact hr.keep c (hn A.block ⟨A.off, _, _, by rw [← hs]⟩)
theorem Src.more {h h' : Heap} {k : Nat} {v : Value} {n : Nat} {xs : List Value} (H : Src h k v n xs) (c : ExtH h h') : Src h' k v n xs :=
  H.keep (S := fun _ => False) c.chg (fun _ _ h => h)
theorem Src.form {h : Heap} {k : Nat} {v : Value} {n : Nat} {xs : List Value} (H : Src h k v n xs) : ∃ A c, v = .slice A n c ∧ n ≤ c ∧ c ≤ maxLen := by
  rcases H.2 with ⟨rfl, rfl⟩ | ⟨A, cap, rfl, hc, hm, _⟩
  · exact ⟨_, _, rfl, Nat.le_refl _, Nat.zero_le _⟩
  · exact ⟨_, _, rfl, hc, hm⟩
theorem ownsRow_of {w : World} {e : TypeId} {k : Nat} {v : Value} {n : Nat} {xs : List Value} (H : OwnS w.heap e k v n xs) : w.ownsRow 0 e k v n xs := by
  refine ⟨H.1, ?_⟩
  rcases H.2 with h0 | ⟨g, cap, tl, rfl, hg, h1, h2, h3⟩
  · exact .inl h0
  · exact .inr ⟨g, cap, (xs ++ tl).toArray, rfl, Nat.zero_le _, hg, h1, h2, by simpa using h3, by simp [← H.1]⟩
section
variable {P : Program} {t ty e : TypeId} {i : TypeInfo} {z : Value} (ht : P.underlying t = some (.slice e)) (hi : P.info? e = some i) (hz : i.zero = some z) (hzs : z.cells.size = i.size)
/-- what append(v, x...) comes to where v is our own -/
def Appended (e : TypeId) (k : Nat) (v : Value) (h : Heap) (n : Nat) (xs : List Value) (v' : Value) (h' : Heap) : Prop :=
  OwnS h' e k v' n xs ∧ Chg (ob v) h h' ∧ (∀ b, ob v' b → ob v b ∨ h.size ≤ b)
include hzs in
theorem owns_grown {w : World} {k N cap : Nat} (hk : i.size = k) {xs : List Value} (hl : xs.length = N * k) (hc : N ≤ cap) (hm : cap ≤ maxLen) :
    OwnS (w.drew.alloc (.cells (xs.toArray ++ Builtin.zeroCells z.cells (cap - N)) e)).heap e k (.slice (some ⟨w.heap.size, 0, none⟩) N cap) N xs := by
  refine ⟨hl, .inr ⟨w.heap.size, cap, (Builtin.zeroCells z.cells (cap - N)).toList, rfl, ?_, hc, hm, ?_⟩⟩
  · have := heap_alloc_new w.drew (.cells (xs.toArray ++ Builtin.zeroCells z.cells (cap - N)) e)
    unfold Blk
    rw [show (xs ++ (Builtin.zeroCells z.cells (cap - N)).toList).toArray = xs.toArray ++ Builtin.zeroCells z.cells (cap - N) by simp]
    exact this
  · simp only [List.length_append, Array.length_toList, size_zeroCells, hzs, hk, hl]
    rw [← Nat.add_mul]
    congr 1
    omega
theorem alloc_ext (w : World) (o : Obj) : ExtH w.heap (w.drew.alloc o).heap := (Newed.push w.heap o).ext
include ht hi hz hzs in
theorem append_own {k : Nat} (hk : i.size = k) {h : Heap} {v x : Value} {n m : Nat} {xs ds : List Value} (hd : OwnS h e k v n xs) (hs : Src h k x m ds) (h1 : ∀ u ∈ ds, u.oneCell' = true)
    (hm : n + m ≤ maxLen) (hb : (n + m) * i.bytes ≤ 140737488355328) : RunsV P (Builtin.append_ #[t, t] ty #[v, x]) h (Appended e k v h (n + m) (xs ++ ds)) := by
  intro w hw
  subst hw
  subst hk
  have hlen : (xs ++ ds).length = (n + m) * i.size := by rw [List.length_append, hd.1, hs.1, Nat.add_mul]
  have hsmall : n + m ≤ 9223372036854775807 := by simp only [maxLen] at hm; omega
  -- nothing is appended
  have none_ : ∀ x, x = .slice none 0 0 → m = 0 → ∃ v' w', (Builtin.append_ #[t, t] ty #[v, x]).run P w = .ok v' w' ∧ SameEnv w w' ∧ Appended e i.size v w.heap (n + m) (xs ++ ds) v' w'.heap := by
    rintro x rfl rfl
    have hd0 : ds = [] := List.eq_nil_of_length_eq_zero (by simpa using hs.1)
    subst hd0
    refine ⟨v, w, run_append_owned_none w 0 t ty e i i.size ht hi v n xs (ownsRow_of hd), SameEnv.refl w, ?_⟩
    simp only [Nat.add_zero, List.append_nil]
    exact ⟨hd, ⟨Nat.le_refl _, fun _ _ _ => rfl⟩, fun b hb => .inl hb⟩
  rcases hs.2 with ⟨rfl, rfl⟩ | ⟨X, c, rfl, hmc, hcm, hr⟩
  · exact none_ _ rfl rfl
  · have hnews : ∀ j u, ds[j]? = some u → w.cell? (X.add j) = some u := fun j u hu => by rw [cell_eq_rd]; exact hr j u hu
    rcases hd.2 with ⟨rfl, rfl⟩ | ⟨g, cap, tl, rfl, hg, hnc, hcm', hcl⟩
    · have hx : xs = [] := List.eq_nil_of_length_eq_zero (by simpa using hd.1)
      subst hx
      by_cases h0 : m = 0
      · subst h0
        have hd0 : ds = [] := List.eq_nil_of_length_eq_zero (by simpa using hs.1)
        subst hd0
        refine ⟨.slice none 0 0, w, ?_, SameEnv.refl w, ?_⟩
        · simp [Builtin.append_, run_underlying ht, sizeOf, typeInfo, hi, Builtin.lenOf, Builtin.firstCells, loadCells, loadCellsFrom]
        · exact ⟨OwnS.nil _ _ _, ⟨Nat.le_refl _, fun _ _ _ => rfl⟩, fun b hb => .inl hb⟩
      · have hrun := run_append_nil (P := P) w t ty e i z ht hi hz X m c ds hs.1 hnews (by omega) (by omega) (by simp only [Nat.zero_add] at hb; omega)
        refine ⟨_, _, hrun, ⟨rfl, rfl, rfl⟩, ?_, (alloc_ext w _).chg, fun d hd' => .inr (by rw [ob_slice] at hd'; omega)⟩
        simp only [Nat.zero_add, List.nil_append] at hlen hm ⊢
        exact owns_grown hzs rfl hlen (grownCap_ge w m 0 e) (grownCap_le_maxLen w m 0 e hm)
    · by_cases hroom : n + m ≤ cap
      · have hfit : n * i.size + ds.length ≤ (xs ++ tl).toArray.size := by
          rw [hs.1, ← Nat.add_mul]
          simp only [List.size_toArray, hcl]
          exact Nat.mul_le_mul_right _ hroom
        have hrun := run_append_room (P := P) w t ty e i ht hi g n cap (xs ++ tl).toArray hg X m c ds hs.1 hnews h1 hroom hfit
        have hwr := heap_setRow w g (((xs ++ tl).toArray.toList.take (n * i.size) ++ ds ++ (xs ++ tl).toArray.toList.drop (n * i.size + ds.length)).toArray) (xs ++ tl).toArray e hg
        have ecells : (xs ++ tl).toArray.toList.take (n * i.size) ++ ds ++ (xs ++ tl).toArray.toList.drop (n * i.size + ds.length) = (xs ++ ds) ++ tl.drop ds.length := by
          simp only [← hd.1]
          rw [List.take_left, List.drop_append]
          simp
        refine ⟨_, _, hrun, ⟨rfl, rfl, rfl⟩, ⟨hlen, .inr ⟨g, cap, tl.drop ds.length, rfl, ?_, hroom, hcm', ?_⟩⟩, ?_, fun d hd' => .inl (by rw [ob_slice] at hd' ⊢; exact hd')⟩
        · have := hwr.new
          rw [ecells] at this
          simpa [ecells] using this
        · rw [← hcl]
          simp only [List.length_append, List.length_drop, hs.1]
          simp only [List.size_toArray, List.length_append, hd.1] at hfit
          rw [hs.1] at hfit
          rw [hd.1]
          omega
        · exact hwr.chg.mono (fun k _ hk => by rw [ob_slice]; exact hk)
      · have holds : ∀ j u, xs[j]? = some u → w.cell? ((⟨g, 0, none⟩ : Addr).add j) = some u := fun j u hu => by
          rw [add_none, cell_eq_rd]
          exact hg.rdN 0 xs (by simp) j u hu
        have hrun := run_append_grow (P := P) w t ty e i z ht hi hz ⟨g, 0, none⟩ n cap xs hd.1 holds X m c ds hs.1 hnews (by omega) (by omega) (growslice_fits (by omega) hb)
        refine ⟨_, _, hrun, ⟨rfl, rfl, rfl⟩, ?_, (alloc_ext w _).chg, fun d hd' => .inr (by rw [ob_slice] at hd'; omega)⟩
        have := owns_grown (e := e) (w := w) hzs rfl hlen (grownCap_ge w (n + m) cap e) (grownCap_le_maxLen w (n + m) cap e hm)
        simpa using this
end
end Go.Proofs.YtgecapllodgdeaaGreatDoor.Vm
