/-
  The contracts of bytes.Clone, and of package sha's eight, Pad, New and ready.
-/
import Derived.Test.YtgecapllodgdeaaGreatDoorVmSlice
import Derived.Test.YtgecapllodgdeaaGreatDoorShaComp
namespace Go.Proofs.YtgecapllodgdeaaGreatDoor
open Go Vm
set_option maxRecDepth 100000
theorem info8 : (Tryz.prog.info? 5).map (fun i => (i.zero, i.size, i.bytes)) = some (some (.int .u8 0), 1, 1) := by kernel_rfl
def OB (h : Heap) (v : Value) (l : List UInt8) : Prop := OwnS h 5 1 v l.length (l.map u8v)
def RB (h : Heap) (v : Value) (l : List UInt8) : Prop := Src h 1 v l.length (l.map u8v)
theorem OB.r {h : Heap} {v : Value} {l : List UInt8} (o : OB h v l) : RB h v l := OwnS.src o
theorem one8 (l : List UInt8) : ∀ u ∈ l.map u8v, u.oneCell' = true := by
  intro u hu
  obtain ⟨b, _, rfl⟩ := List.mem_map.1 hu
  rfl
theorem append_bytes {h : Heap} {v x : Value} {l m : List UInt8} {ty : TypeId} (hd : OB h v l) (hs : RB h x m) (hl : l.length + m.length ≤ 140737488355328) :
    RunsV Tryz.prog (Builtin.append_ #[33, 33] ty #[v, x]) h fun v' h' => OB h' v' (l ++ m) ∧ Chg (ob v) h h' ∧ ∀ b, ob v' b → ob v b ∨ h.size ≤ b := by
  obtain ⟨i0, hi, hz0, hz1, hz2⟩ := info_parts info8
  have := append_own (P := Tryz.prog) (t := 33) (ty := ty) Tryz.underlying33 hi hz0 (by rw [hz1]; rfl) hz1 hd hs (one8 m) (by unfold maxLen; omega) (by rw [hz2]; omega)
  refine this.mono fun v' h' ⟨h1, h2, h3⟩ => ⟨?_, h2, h3⟩
  unfold OB
  simpa using h1
theorem RB.cases {h : Heap} {v : Value} {l : List UInt8} (r : RB h v l) : (v = .slice none 0 0 ∧ l = []) ∨ ∃ A cap, v = .slice (some A) l.length cap ∧ l.length ≤ cap ∧ cap ≤ maxLen ∧ rdA h A (l.map u8v) := by
  rcases r.2 with ⟨rfl, h0⟩ | h0
  · exact .inl ⟨rfl, List.eq_nil_of_length_eq_zero h0⟩
  · exact .inr h0
theorem OB.nil (h : Heap) : OB h (.slice none 0 0) [] := OwnS.nil h _ _
/-- a new row is our own -/
theorem OB.of_new {h h' : Heap} {c : Array Value} {l : List UInt8} {tl : List Value} {cap : Nat} (n : Newed h h' (.cells c 5)) (hc : c.toList = l.map u8v ++ tl) (hcap : l.length + tl.length = cap) (hm : cap ≤ maxLen) :
    OB h' (.slice (some ⟨h.size, 0, none⟩) l.length cap) l := by
  refine ⟨by simp, .inr ⟨h.size, cap, tl, rfl, ?_, by omega, hm, by simp; omega⟩⟩
  rw [← hc]
  exact n.blk
theorem clone_fn {h : Heap} {v : Value} {l : List UInt8} (r : RB h v l) (hl : l.length ≤ 140737488355328) :
    Fx Tryz.prog 126 #[v] h fun v' h' => OB h' v' l ∧ ExtH h h' ∧ ∀ b, ob v' b → h.size ≤ b := by
  refine fn_of 8 Tryz.func126 rfl (by kernel_rfl) rfl (by simp) ?_
  refine cw_seq (cw_region rfl ?_)
  refine cw_seq (cw_seq (cw_region rfl ?_))
  rcases r.cases with ⟨rfl, rfl⟩ | ⟨A, cap, rfl, hc, hm, hr⟩
  · conv => whnf
    refine ⟨.bool true, fun w => by kernel_rfl, ?_⟩
    refine cw_true rfl ?_
    refine cw_seq (cw_region rfl ?_)
    refine cw_ret ?_
    exact ⟨OB.nil h, ExtH.refl h, fun b hb => (ob_nil hb).elim⟩
  · conv => whnf
    refine ⟨.bool false, fun w => by kernel_rfl, ?_⟩
    refine cw_false rfl (cw_skip ?_)
    refine cw_seq (cw_region rfl ?_)
    conv => whnf
    refine ⟨_, rfl, #[], 5, fun w => by kernel_rfl, ?_⟩
    intro h1 n1
    have o1 : OB h1 (.slice (some ⟨h.size, 0, none⟩) 0 0) [] := OB.of_new (l := []) (tl := []) n1 rfl rfl (by simp [maxLen])
    conv => whnf
    refine ⟨_, rfl, _, append_bytes (ty := 33) o1 (Src.more r n1.ext) (by simpa using hl), ?_⟩
    rintro v' h2 ⟨o2, c2, f2⟩
    refine cw_ret ?_
    have e2 : ExtH h h2 := ⟨by have := n1.size; have := c2.size; omega, fun b hb => by
      rw [c2.block b (by rw [n1.size]; omega) (by rw [ob_slice]; omega), n1.block b hb]⟩
    refine ⟨o2, e2, fun b hb => ?_⟩
    rcases f2 b hb with h3 | h3
    · rw [ob_slice] at h3; omega
    · have := n1.size; omega
theorem made8 {h : Heap} {b n : Nat} {t : TypeId} (hb : Blk h b (madeCells #[u8v 0] n).toList t) : Blk h b (List.replicate n (u8v 0)) t := by rwa [toList_madeCells_one] at hb
def ecells (n i : Nat) : List Value := ((Sha.eight n).map u8v).take i ++ List.replicate (8 - i) (u8v 0)
theorem ecells_set (n i : Nat) (hi : i < 8) : (ecells n i).set i (u8v (UInt8.ofNat (n / 2 ^ (56 - 8 * i)))) = ecells n (i + 1) := by
  have : i = 0 ∨ i = 1 ∨ i = 2 ∨ i = 3 ∨ i = 4 ∨ i = 5 ∨ i = 6 ∨ i = 7 := by omega
  rcases this with rfl | rfl | rfl | rfl | rfl | rfl | rfl | rfl <;> simp [ecells, Sha.eight, List.replicate]
theorem ecells_length (n i : Nat) (hi : i ≤ 8) : (ecells n i).length = 8 := by simp [ecells, Sha.eight]; omega
theorem eight_fn (n : Nat) (h : Heap) :
    Fx Tryz.prog 65 #[.int .u64 (n : Int)] h fun v' h' => OB h' v' (Sha.eight n) ∧ ExtH h h' ∧ ∀ b, ob v' b → h.size ≤ b := by
  refine fn_of 22 Tryz.func65 rfl (by kernel_rfl) rfl (by simp) ?_
  refine cw_seq (cw_region rfl ?_)
  refine cw_seq (cw_region rfl ?_)
  conv => whnf
  refine ⟨⟨by decide, by decide, by decide, by decide⟩, ?_⟩
  intro h1 n1
  refine cw_seq (cw_seq (cw_region rfl ?_))
  refine cw_block ?_
  refine cw_loop (S := Nat) (fun t => [(0, .int .u64 (n : Int)), (3, .slice (some ⟨h.size, 0, none⟩) 8 8), (7, .int .i64 8), (8, .int .i64 (t : Int))])
    (fun t h' => t ≤ 8 ∧ Blk h' h.size (ecells n t) 5 ∧ ExtH h h') (fun t => 8 - t) 0 ⟨rfl, rfl, rfl, rfl, trivial⟩ ⟨by omega, made8 (n := 8) n1.blk, n1.ext⟩ ?_
  clear n1 h1
  rintro t h1 ⟨ht, hb, he⟩
  refine cw_seq (cw_region rfl ?_)
  by_cases hlt : t < 8
  · refine cw_seq (cw_yes rfl (by omega) (cw_skip ?_))
    refine cw_seq (cw_block (cw_seq (cw_region rfl (cw_region rfl ?_))))
    have e1 := i64_eq (8 * (t : Int)) (8 * t) (by omega) (by omega)
    have e2 := i64_eq (56 - IntKind.i64.wrap (8 * (t : Int))) (56 - 8 * t) (by omega) (by omega)
    conv => whnf
    refine ⟨by omega, ?_⟩
    conv => whnf
    refine ⟨⟨by omega, by omega⟩, ?_⟩
    conv => whnf
    refine ⟨_, _, hb, by rw [ecells_length _ _ ht]; omega, ?_⟩
    intro h2 w2
    have w2 := w2.cast (l' := ecells n (t + 1)) (by
      rw [← ecells_set n t hlt]
      refine congr (congrArg (List.set (ecells n t)) (show 0 + ((t : Int)).toNat = t by omega)) (congrArg (Value.int .u8) ?_)
      show IntKind.u8.wrap ((n : Int) / 2 ^ min (IntKind.i64.wrap (56 - IntKind.i64.wrap (8 * (t : Int)))).toNat 64) = _
      rw [e2, show min (((56 - 8 * t : Nat) : Int)).toNat 64 = 56 - 8 * t by omega, show (n : Int) / 2 ^ (56 - 8 * t) = ((n / 2 ^ (56 - 8 * t) : Nat) : Int) by simp, wrap8_nat])
    refine cw_region rfl ?_
    exact ⟨t + 1, ⟨rfl, rfl, rfl, slot_i64 _ _ (by omega) (by omega), trivial⟩, ⟨by omega, w2.new, ⟨by rw [w2.size]; exact he.size, fun b hb' => by rw [w2.block b (by omega)]; exact he.block b hb'⟩⟩, by omega⟩
  · refine cw_seq (cw_no rfl (by omega) (cw_exit ?_))
    have t8 : t = 8 := by omega
    subst t8
    refine cw_seq (cw_region rfl ?_)
    refine cw_ret ?_
    refine ⟨?_, he, fun b hb' => by have := ob_slice.1 hb'; omega⟩
    refine ⟨by simp, .inr ⟨h.size, 8, [], rfl, ?_, by simp [Sha.eight], by simp [maxLen], by simp [Sha.eight]⟩⟩
    simpa [ecells, Sha.eight] using hb
end Go.Proofs.YtgecapllodgdeaaGreatDoor
