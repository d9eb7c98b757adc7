/-
  A pool in memory; package pool's made, find, turn.
-/
import Derived.Test.YtcmjgkjnnmfijaaPoolW
namespace Go.Proofs.Ytcmjgkjnnmfijaa
open Go Vm
set_option maxRecDepth 100000
set_option linter.unusedVariables false
def zeroW : Wk := ⟨0, 0, 0, List.replicate 32 0, 0, 0⟩
/-- the pool at p: its limits, and its workers in the list v -/
structure PoolAt (h : Heap) (p : Nat) (v : Value) (wk sl id : Int) (ws : List Wk) : Prop where
  blk : Blk h p [.int .i64 wk, .int .i64 sl, .int .i64 id, v] 69
  own : OwnS h 31 37 v ws.length (cellsW ws)
  keys : keysOk ws
theorem PoolAt.more {h h' : Heap} {p : Nat} {v : Value} {wk sl id : Int} {ws : List Wk} (A : PoolAt h p v wk sl id ws) (x : ExtH h h') : PoolAt h' p v wk sl id ws := ⟨x.blk A.blk, OwnS.more A.own x, A.keys⟩
theorem PoolAt.keep {S : Nat → Prop} {h h' : Heap} {p : Nat} {v : Value} {wk sl id : Int} {ws : List Wk} (A : PoolAt h p v wk sl id ws) (c : Chg S h h') (hp : ¬ S p) (hv : ∀ b, ob v b → ¬ S b) : PoolAt h' p v wk sl id ws :=
  ⟨c.blk A.blk hp, OwnS.keep A.own c hv, A.keys⟩
theorem PoolAt.fix {h : Heap} {p : Nat} {v : Value} {wk sl id : Int} {ws : List Wk} (A : PoolAt h p v wk sl id ws) : ∃ a c, v = .slice a ws.length c ∧ ws.length ≤ maxLen := by
  obtain ⟨a, c, e, h1, h2⟩ := (OwnS.src A.own).form
  exact ⟨a, c, e, by omega⟩
theorem PoolAt.ne {h : Heap} {p : Nat} {v : Value} {wk sl id : Int} {ws : List Wk} (A : PoolAt h p v wk sl id ws) : ¬ ob v p := OwnS.ne A.own A.blk (by decide)
theorem PoolAt.slot {h : Heap} {p : Nat} {v : Value} {wk sl id : Int} {ws : List Wk} (A : PoolAt h p v wk sl id ws) {i : Nat} (hi : i < ws.length) :
    ∃ g c tl, v = .slice (some ⟨g, 0, none⟩) ws.length c ∧ Blk h g (cellsW ws ++ tl) 31 ∧ ws.length ≤ c ∧ c ≤ maxLen ∧ (cellsW ws ++ tl).length = c * 37 ∧ g ≠ p := by
  rcases A.own.2 with ⟨rfl, h0⟩ | ⟨g, c, tl, rfl, hb, h1, h2, h3⟩
  · omega
  · exact ⟨g, c, tl, rfl, hb, h1, h2, h3, fun e => A.ne (ob_slice.2 e.symm)⟩
theorem PoolAt.put {h h' : Heap} {p : Nat} {v : Value} {wk sl id : Int} {ws ws' : List Wk} (A : PoolAt h p v wk sl id ws) {g c : Nat} {tl : List Value} {ty : TypeId} (hv : v = .slice (some ⟨g, 0, none⟩) ws.length c) (h1 : ws.length ≤ c) (h2 : c ≤ maxLen)
    (h3 : (cellsW ws ++ tl).length = c * 37) (hl : ws'.length = ws.length) (hk : keysOk ws') (w : Wrote h h' g (cellsW ws' ++ tl) ty) (ht : ty = 31) : PoolAt h' p v wk sl id ws' := by
  subst ht
  have e1 := cellsW_length A.keys
  have e2 := cellsW_length hk
  refine ⟨w.blk A.blk (fun e => A.ne (by rw [hv, ob_slice]; exact e)), ⟨by rw [e2], .inr ⟨g, c, tl, by rw [hl]; exact hv, w.new, by omega, h2, ?_⟩⟩, hk⟩
  rw [List.length_append] at h3 ⊢
  rw [e2, hl, ← e1]
  exact h3
theorem keysOk_set {ws : List Wk} (hk : keysOk ws) {i : Nat} {w' : Wk} (h : w'.key.length = 32) : keysOk (ws.set i w') := fun x hx => by
  rcases List.mem_or_eq_of_mem_set hx with h1 | rfl
  · exact hk x h1
  · exact h
theorem keysOk_get {ws : List Wk} (hk : keysOk ws) {i : Nat} {w : Wk} (h : ws[i]? = some w) : w.key.length = 32 := hk w (List.mem_of_getElem? h)
theorem made_fn {h : Heap} {p : Nat} {v : Value} {wk sl id : Int} {ws : List Wk} (A : PoolAt h p v wk sl id ws) : Fx Try.prog 36 #[.pointer (some ⟨p, 0, none⟩)] h fun u h' => u = .bool (decide (0 < wk)) ∧ h' = h := by
  refine fn_of 12 Try.func36 rfl (by kernel_rfl) rfl (by simp) ?_
  refine cw_seq (cw_region rfl ?_)
  refine cw_seq (cw_region rfl ?_)
  conv => whnf
  refine ⟨.bool true, fun w => by kernel_rfl, ?_⟩
  conv => whnf
  refine ⟨_, A.blk.rd (o := 0) rfl, ?_⟩
  exact cw_ret ⟨rfl, rfl⟩
theorem made_nil (h : Heap) : Fx Try.prog 36 #[.pointer none] h fun u h' => u = .bool false ∧ h' = h := by
  refine fn_of 12 Try.func36 rfl (by kernel_rfl) rfl (by simp) ?_
  refine cw_seq (cw_region rfl ?_)
  refine cw_seq (cw_region rfl ?_)
  conv => whnf
  refine ⟨.bool false, fun w => by kernel_rfl, ?_⟩
  exact cw_ret ⟨rfl, rfl⟩
/-- what find answers -/
def findE (ws : List Wk) (n : Int) (l : List Int) : Int := if n < 1 ∨ (ws.length : Int) < n then 260 else if (ws.getD (n.toNat - 1) zeroW).st ∈ l then 0 else 261
theorem find_fn {h : Heap} {p : Nat} {v sv : Value} {wk sl id : Int} {ws : List Wk} {l : List Int} (n : Int) (A : PoolAt h p v wk sl id ws) (hwk : 0 < wk) (r : RI h sv l) :
    Fx Try.prog 30 #[.pointer (some ⟨p, 0, none⟩), .int .i64 n, sv] h fun u h' => ExtH h h' ∧ ((findE ws n l ≠ 0 ∧ u = .tuple #[.pointer none, .int .i64 (findE ws n l)]) ∨
      (findE ws n l = 0 ∧ ∃ (i : Nat) (w : Wk) (g c : Nat), n = (i : Int) + 1 ∧ ws[i]? = some w ∧ w.st ∈ l ∧ v = .slice (some ⟨g, 0, none⟩) ws.length c ∧ u = .tuple #[.pointer (some ⟨g, i * 37, none⟩), .int .i64 0])) := by
  refine fn_of 43 Try.func30 rfl (by kernel_rfl) rfl (by simp) ?_
  obtain ⟨va, vc, hve, hvm⟩ := A.fix
  have hmax : maxLen < 9223372036854775808 := by decide
  refine cw_seq (cw_region rfl ?_)
  refine cw_seq (cw_block (cw_seq (cw_region rfl ?_)))
  conv => whnf
  refine ⟨_, rfl, _, made_fn A, ?_⟩
  rw [decide_eq_true hwk]
  rintro _ h0 ⟨rfl, e⟩
  subst h0
  conv => whnf
  refine cw_false rfl ?_
  refine cw_seq (cw_region rfl ?_)
  unfold findE
  refine ops_q rfl rfl (fun k hk => hk) ?_
  by_cases h1 : n < 1
  · refine ops_q (v := .bool true) rfl rfl (fun k hk => say true (decide_eq_true h1) hk) ?_
    conv => whnf
    refine cw_true rfl (cw_seq (cw_region rfl ?_))
    rw [if_pos (.inl h1)]
    exact cw_ret ⟨ExtH.refl _, .inl ⟨by decide, rfl⟩⟩
  · refine ops_q (v := .bool false) rfl rfl (fun k hk => say false (decide_eq_false h1) hk) ?_
    conv => whnf
    refine ⟨_, A.blk.rd (o := 3) rfl, ?_⟩
    subst hve
    conv => whnf
    by_cases h2 : (ws.length : Int) < n
    · refine cw_yes rfl h2 (cw_seq (cw_region rfl ?_))
      rw [if_pos (.inr h2)]
      exact cw_ret ⟨ExtH.refl _, .inl ⟨by decide, rfl⟩⟩
    · refine cw_no rfl h2 ?_
      rw [if_neg (fun e => e.elim h1 h2)]
      obtain ⟨i, hi⟩ : ∃ i : Nat, n = (i : Int) + 1 := ⟨(n - 1).toNat, by omega⟩
      have hil : i < ws.length := by omega
      have hw : ws[i]? = some ws[i] := List.getElem?_eq_getElem hil
      generalize ws[i] = w at hw
      have hg : ws.getD (n.toNat - 1) zeroW = w := by rw [show n.toNat - 1 = i by omega, List.getD_eq_getElem?_getD, hw]; rfl
      rw [hg]
      have hk := keysOk_get A.keys hw
      have ei := i64_eq (n - 1) i (by omega) (by omega)
      obtain ⟨g, c, tl, hv, hb, h3, h4, h5, h6⟩ := A.slot hil
      injection hv with hv1 _ hv2
      subst hv1 hv2
      refine cw_seq (cw_region rfl ?_)
      conv => whnf
      refine ⟨_, A.blk.rd (o := 3) rfl, ?_⟩
      conv => whnf
      rw [ei]
      refine ⟨⟨by omega, by omega⟩, ?_⟩
      conv => whnf
      refine ⟨wkC w, by rw [wkC_length hk]; rfl, fun k u hu => hb.rd (by
        have := cellsW_at A.keys hw tl k u hu
        rwa [show i * 37 + k = 0 + ((i : Int)).toNat * 37 + k by omega] at this), ?_⟩
      conv => whnf
      refine ⟨_, rfl, _, is_fn w hk r, ?_⟩
      rintro _ h7 ⟨rfl, x7⟩
      by_cases hin : w.st ∈ l
      · rw [decide_eq_true hin, if_pos hin]
        conv => whnf
        refine cw_false rfl (cw_skip ?_)
        have A7 := A.more x7
        refine cw_seq (cw_region rfl ?_)
        conv => whnf
        refine ⟨_, A7.blk.rd (o := 3) rfl, ?_⟩
        conv => whnf
        rw [ei]
        refine ⟨⟨by omega, by omega⟩, ?_⟩
        conv => whnf
        refine cw_ret ⟨x7, .inr ⟨rfl, i, w, g, vc, hi, hw, hin, rfl, ?_⟩⟩
        show Value.tuple #[.pointer (some ⟨g, 0 + ((i : Int)).toNat * 37, none⟩), .int .i64 0] = _
        rw [show 0 + ((i : Int)).toNat * 37 = i * 37 by omega]
      · rw [decide_eq_false hin, if_neg hin]
        conv => whnf
        refine cw_true rfl (cw_seq (cw_region rfl ?_))
        exact cw_ret ⟨x7, .inl ⟨by decide, rfl⟩⟩
theorem turn_fn {h : Heap} {p g c : Nat} {wk sl id : Int} {ws : List Wk} {i : Nat} {w : Wk} (s d : Int) (A : PoolAt h p (.slice (some ⟨g, 0, none⟩) ws.length c) wk sl id ws) (hw : ws[i]? = some w) :
    Fx Try.prog 35 #[.pointer (some ⟨g, i * 37, none⟩), .int .i64 s, .int .i64 d] h fun u h' => u = .tuple #[] ∧ PoolAt h' p (.slice (some ⟨g, 0, none⟩) ws.length c) wk sl id (ws.set i { w with st := s, ld := d, id := 0 }) ∧ Chg (fun b => b = g) h h' := by
  refine fn_of 17 Try.func35 rfl (by kernel_rfl) rfl (by simp) ?_
  have hil : i < ws.length := (List.getElem?_eq_some_iff.1 hw).1
  have hk := keysOk_get A.keys hw
  obtain ⟨g', c', tl, hv, hb, h3, h4, h5, h6⟩ := A.slot hil
  injection hv with hv1 _ hv2
  injection hv1 with hv1
  injection hv1 with hv1
  subst hv1 hv2
  have hlen : (cellsW ws ++ tl).length ≥ ws.length * 37 := by rw [List.length_append, cellsW_length A.keys]; omega
  refine cw_region rfl ?_
  conv => whnf
  refine ⟨_, _, hb, by show i * 37 + 1 < _; omega, ?_⟩
  intro h7 w7
  replace w7 := w7.cast (l' := cellsW (ws.set i { w with st := s }) ++ tl) (cellsW_set A.keys hw tl 1 _ (by omega) (wkC_st w s))
  have k7 := keysOk_set A.keys (i := i) (w' := { w with st := s }) hk
  have hw7 : (ws.set i { w with st := s })[i]? = some { w with st := s } := by rw [List.getElem?_set_self hil]
  conv => whnf
  refine ⟨_, _, w7.new, by show i * 37 + 35 < _; rw [List.length_append, cellsW_length k7, List.length_set]; omega, ?_⟩
  intro h8 w8
  replace w8 := w8.cast (l' := cellsW ((ws.set i { w with st := s }).set i { w with st := s, ld := d }) ++ tl) (cellsW_set k7 hw7 tl 35 _ (by omega) (wkC_ld (w := { w with st := s }) hk d))
  rw [List.set_set] at w8
  have k8 := keysOk_set A.keys (i := i) (w' := { w with st := s, ld := d }) hk
  have hw8 : (ws.set i { w with st := s, ld := d })[i]? = some { w with st := s, ld := d } := by rw [List.getElem?_set_self hil]
  conv => whnf
  refine ⟨_, _, w8.new, by show i * 37 + 36 < _; rw [List.length_append, cellsW_length k8, List.length_set]; omega, ?_⟩
  intro h9 w9
  replace w9 := w9.cast (l' := cellsW ((ws.set i { w with st := s, ld := d }).set i { w with st := s, ld := d, id := 0 }) ++ tl) (cellsW_set k8 hw8 tl 36 _ (by omega) (wkC_id (w := { w with st := s, ld := d }) hk 0))
  rw [List.set_set] at w9
  have k9 := keysOk_set A.keys (i := i) (w' := { w with st := s, ld := d, id := 0 }) hk
  have W : Wrote h h9 g (cellsW (ws.set i { w with st := s, ld := d, id := 0 }) ++ tl) 31 := by
    have z7 := w7.size; have z8 := w8.size; have z9 := w9.size
    exact ⟨by omega, w9.new, fun b hb => by rw [w9.block b hb, w8.block b hb, w7.block b hb]⟩
  exact ⟨rfl, A.put rfl h3 h4 h5 (by rw [List.length_set]) k9 W rfl, W.chg⟩
end Go.Proofs.Ytcmjgkjnnmfijaa
