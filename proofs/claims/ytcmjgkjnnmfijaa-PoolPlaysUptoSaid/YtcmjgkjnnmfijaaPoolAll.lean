/-
  Package pool's All.
-/
import Derived.Test.YtcmjgkjnnmfijaaPoolM3
import Derived.Test.YtcmjgkjnnmfijaaPoolEq
namespace Go.Proofs.Ytcmjgkjnnmfijaa
open Go Vm
set_option maxRecDepth 100000
set_option linter.unusedVariables false
theorem info_parts {o : Option TypeInfo} {a : Option Value} {b c : Nat} (h : o.map (fun i => (i.zero, i.size, i.bytes)) = some (a, b, c)) : ∃ i, o = some i ∧ i.zero = a ∧ i.size = b ∧ i.bytes = c := by
  cases o with
  | none => simp at h
  | some i =>
    simp only [Option.map_some, Option.some.injEq, Prod.mk.injEq] at h
    exact ⟨i, rfl, h⟩
theorem infoW : (Try.prog.info? 31).map (fun i => (i.zero, i.size, i.bytes)) = some (some (.agg (wkC zeroW).toArray), 37, 72) := by kernel_rfl
def OW (h : Heap) (v : Value) (l : List Wk) : Prop := OwnS h 31 37 v l.length (cellsW l)
def RW (h : Heap) (v : Value) (l : List Wk) : Prop := Src h 37 v l.length (cellsW l)
theorem OW.r {h : Heap} {v : Value} {l : List Wk} (o : OW h v l) : RW h v l := OwnS.src o
theorem OW.nil (h : Heap) : OW h (.slice none 0 0) [] := OwnS.nil h _ _
theorem OW.more {h h' : Heap} {v : Value} {l : List Wk} (o : OW h v l) (e : ExtH h h') : OW h' v l := OwnS.more o e
theorem cellsW_one (l : List Wk) : ∀ u ∈ cellsW l, u.oneCell' = true := fun u hu => by
  obtain ⟨w, _, h⟩ := List.mem_flatMap.1 hu
  exact wkC_one w u h
theorem cellsW_append (l m : List Wk) : cellsW (l ++ m) = cellsW l ++ cellsW m := by unfold cellsW; rw [List.flatMap_append]
theorem append_wk {h : Heap} {v x : Value} {l m : List Wk} {ty : TypeId} (hd : OW h v l) (hs : RW h x m) (hl : l.length + m.length ≤ 1000000000000) :
    RunsV Try.prog (Builtin.append_ #[44, 44] ty #[v, x]) h fun v' h' => OW h' v' (l ++ m) ∧ Chg (ob v) h h' ∧ ∀ b, ob v' b → ob v b ∨ h.size ≤ b := by
  obtain ⟨i0, hi, hz0, hz1, hz2⟩ := info_parts infoW
  have := append_own (P := Try.prog) (t := 44) (ty := ty) (e := 31) rfl hi hz0 (by rw [hz1]; rfl) hz1 hd hs (cellsW_one m) (by unfold maxLen; omega) (by rw [hz2]; omega)
  refine this.mono fun v' h' ⟨h1, h2, h3⟩ => ⟨?_, h2, h3⟩
  unfold OW
  rw [cellsW_append, List.length_append]
  exact h1
theorem build_wk {w : Wk} (hk : w.key.length = 32) (wd : World) : (Instr.buildSlice 44 1 #[(0, .agg (wkC w).toArray)]).run Try.prog wd = .ok (.slice (some ⟨wd.heap.size, 0, none⟩) 1 1) (wd.alloc (.cells (wkC w).toArray 31)) := by
  obtain ⟨i0, hi, hz0, hz1, hz2⟩ := info_parts infoW
  exact build_one (P := Try.prog) (t := 44) (e := 31) (v := .agg (wkC w).toArray) rfl hi hz0 (by omega) (by omega) (by rw [hz1]; exact wkC_length hk) wd
theorem RW.of_one {h h' : Heap} {w : Wk} (n : Newed h h' (.cells (wkC w).toArray 31)) (hk : w.key.length = 32) : RW h' (.slice (some ⟨h.size, 0, none⟩) 1 1) [w] := by
  refine OwnS.src (e := 31) ⟨by simp [cellsW, wkC_length hk], .inr ⟨h.size, 1, [], rfl, ?_, by simp, by decide, by simp [cellsW, wkC_length hk]⟩⟩
  have := n.blk
  simpa [cellsW] using this
def shown (w : Wk) : Bool := isLive w || decide (w.st = 5)
theorem all_fn {h : Heap} {p : Nat} {v : Value} {wk sl id : Int} {ws : List Wk} (A : PoolAt h p v wk sl id ws) (hwk : 0 < wk) (hs : ws.length ≤ 1000000000) :
    Fx Try.prog 15 #[.pointer (some ⟨p, 0, none⟩)] h fun u h' => OW h' u (ws.filter shown) ∧ ExtH h h' ∧ ∀ b, ob u b → h.size ≤ b := by
  refine fn_of 31 Try.func15 rfl (by kernel_rfl) rfl (by simp) ?_
  obtain ⟨va, vc, hve, hvm⟩ := A.fix
  have hmax : maxLen < 9223372036854775808 := by decide
  refine cw_seq (cw_region rfl ?_)
  refine cw_seq (cw_seq (cw_region rfl ?_))
  conv => whnf
  refine ⟨_, rfl, _, made_fn A, ?_⟩
  rw [decide_eq_true hwk]
  rintro _ h0 ⟨rfl, e⟩
  subst h0
  conv => whnf
  refine cw_false rfl (cw_skip ?_)
  refine cw_seq (cw_region rfl ?_)
  refine cw_seq (cw_seq (cw_region rfl ?_))
  conv => whnf
  refine ⟨_, A.blk.rd (o := 3) rfl, ?_⟩
  subst hve
  conv => whnf
  refine cw_block ?_
  refine cw_loop (S := Nat × Value) (fun s => [(3, s.2), (12, .slice va ws.length vc), (13, .int .i64 (ws.length : Int)), (14, .int .i64 (s.1 : Int))])
    (fun s h' => s.1 ≤ ws.length ∧ ExtH h h' ∧ OW h' s.2 ((ws.take s.1).filter shown) ∧ ∀ b, ob s.2 b → h.size ≤ b) (fun s => ws.length - s.1) (0, .slice none 0 0) ⟨rfl, rfl, rfl, rfl, trivial⟩ ⟨by show 0 ≤ _; omega, ExtH.refl _, OW.nil h, fun b hb => (ob_nil hb).elim⟩ ?_
  rintro ⟨t, lv⟩ h1 ⟨ht, x1, o1, f1⟩
  simp only at ht o1 f1
  obtain ⟨la, lc, hle, _⟩ := (OwnS.src o1).form
  subst hle
  refine cw_seq (cw_region rfl ?_)
  by_cases hlt : t < ws.length
  · refine cw_seq (cw_yes rfl (by show (t : Int) < _; omega) (cw_skip ?_))
    have A1 := A.more x1
    have hw : ws[t]? = some ws[t] := List.getElem?_eq_getElem hlt
    generalize ws[t] = w at hw
    have hk := keysOk_get A.keys hw
    obtain ⟨g, c, tl, hv, hb, _⟩ := A1.slot hlt
    injection hv with hv1 _ hv2
    subst hv1 hv2
    refine cw_seq (cw_block (cw_seq (cw_region rfl ?_)))
    conv => whnf
    refine ⟨⟨by omega, by omega⟩, ?_⟩
    conv => whnf
    refine ⟨wkC w, by rw [wkC_length hk]; rfl, fun k u hu => hb.rd (by
      have := cellsW_at A.keys hw tl k u hu
      rwa [show t * 37 + k = 0 + ((t : Int)).toNat * 37 + k by omega] at this), ?_⟩
    conv => whnf
    intro h2 n2
    have y2 : Blk h2 h1.size (wkC zeroW) 31 := n2.blk
    conv => whnf
    refine ⟨_, _, y2, ⟨by show 0 + (wkC w).length ≤ 37; rw [wkC_length hk]; omega, by show (wkC w).length = _; rw [wkC_length hk]; rfl, wkC_one w⟩, ?_⟩
    intro h3 w3
    replace w3 := w3.cast (l' := wkC w) (by simp [splice, wkC, zeroW]; omega)
    have z1 := x1.size; have z2 := n2.size; have z3 := w3.size
    have x13 : ExtH h1 h3 := ⟨by omega, fun b hb => by rw [w3.block b (by omega), n2.block b (by omega)]⟩
    have y3 := w3.new
    refine cw_seq (cw_region rfl ?_)
    conv => whnf
    refine ⟨wkC w, by rw [wkC_length hk]; rfl, y3.all, ?_⟩
    conv => whnf
    refine ⟨_, rfl, _, lives_fn w hk, ?_⟩
    rintro _ h4 ⟨rfl, x4⟩
    -- the step's end
    have hfil : (ws.take (t + 1)).filter shown = (ws.take t).filter shown ++ (if shown w then [w] else []) := by
      rw [List.take_add_one, hw, List.filter_append]
      cases h : shown w <;> simp [h]
    have hlen : ((ws.take t).filter shown).length ≤ t := Nat.le_trans (List.length_filter_le _ _) (by rw [List.length_take]; omega)
    rcases (show isLive w = true ∨ (isLive w = false ∧ w.st = 5) ∨ (isLive w = false ∧ w.st ≠ 5) from by
      cases isLive w <;> simp
      exact Classical.em _) with hlv | ⟨hlv, h5⟩ | ⟨hlv, h5⟩
    · have hsh : shown w = true := by simp [shown, hlv]
      rw [hlv]
      conv => whnf
      refine cw_true rfl ?_
      refine cw_region rfl ?_
      conv => whnf
      refine ⟨wkC w, by rw [wkC_length hk]; rfl, (x4.blk y3).all, ?_⟩
      conv => whnf
      refine ⟨_, rfl, (wkC w).toArray, 31, fun wd => build_wk hk wd, ?_⟩
      intro h7 n7
      conv => whnf
      have x17 := (x13.trans x4).trans n7.ext
      refine ⟨_, rfl, _, append_wk (ty := 44) (o1.more x17) (RW.of_one n7 hk) (by show ((ws.take t).filter shown).length + 1 ≤ _; omega), ?_⟩
      rintro v8 h8 ⟨o8, c8, f8⟩
      have z17 := x17.size
      have z8 := c8.size
      have x8 : ExtH h h8 := ⟨by omega, fun b hb => by rw [c8.block b (by omega) (fun e => by have := f1 b e; omega), (x1.trans x17).block b hb]⟩
      refine cw_region rfl ?_
      exact ⟨(t + 1, v8), ⟨rfl, rfl, rfl, slot_i64 _ _ (by simp) (by show t + 1 < _; omega), trivial⟩, ⟨by show t + 1 ≤ _; omega, x8, by rw [hfil, hsh]; exact o8, fun b hb => (f8 b hb).elim (f1 b) (fun e => by omega)⟩, by show ws.length - (t + 1) < ws.length - t; omega⟩
    · have hsh : shown w = true := by simp [shown, h5]
      rw [hlv]
      conv => whnf
      refine ⟨wkC w, by rw [wkC_length hk]; rfl, (x4.blk y3).all, ?_⟩
      conv => whnf
      refine ⟨_, rfl, #[.int .i64 5], 77, fun w => by kernel_rfl, ?_⟩
      intro h5' n5'
      conv => whnf
      refine ⟨_, rfl, _, is_fn w hk (RI.of_newed n5' (l := [5]) rfl rfl (by decide)), ?_⟩
      rintro _ h6' ⟨rfl, x6'⟩
      replace x4 := x4.trans (n5'.ext.trans x6')
      rw [decide_eq_true (show w.st ∈ [(5 : Int)] by simp [h5])]
      conv => whnf
      refine cw_true rfl ?_
      refine cw_region rfl ?_
      conv => whnf
      refine ⟨wkC w, by rw [wkC_length hk]; rfl, (x4.blk y3).all, ?_⟩
      conv => whnf
      refine ⟨_, rfl, (wkC w).toArray, 31, fun wd => build_wk hk wd, ?_⟩
      intro h7 n7
      conv => whnf
      have x17 := (x13.trans x4).trans n7.ext
      refine ⟨_, rfl, _, append_wk (ty := 44) (o1.more x17) (RW.of_one n7 hk) (by show ((ws.take t).filter shown).length + 1 ≤ _; omega), ?_⟩
      rintro v8 h8 ⟨o8, c8, f8⟩
      have z17 := x17.size
      have z8 := c8.size
      have x8 : ExtH h h8 := ⟨by omega, fun b hb => by rw [c8.block b (by omega) (fun e => by have := f1 b e; omega), (x1.trans x17).block b hb]⟩
      refine cw_region rfl ?_
      exact ⟨(t + 1, v8), ⟨rfl, rfl, rfl, slot_i64 _ _ (by simp) (by show t + 1 < _; omega), trivial⟩, ⟨by show t + 1 ≤ _; omega, x8, by rw [hfil, hsh]; exact o8, fun b hb => (f8 b hb).elim (f1 b) (fun e => by omega)⟩, by show ws.length - (t + 1) < ws.length - t; omega⟩
    · have hsh : shown w = false := by simp [shown, hlv, h5]
      rw [hlv]
      conv => whnf
      refine ⟨wkC w, by rw [wkC_length hk]; rfl, (x4.blk y3).all, ?_⟩
      conv => whnf
      refine ⟨_, rfl, #[.int .i64 5], 77, fun w => by kernel_rfl, ?_⟩
      intro h5' n5'
      conv => whnf
      refine ⟨_, rfl, _, is_fn w hk (RI.of_newed n5' (l := [5]) rfl rfl (by decide)), ?_⟩
      rintro _ h6' ⟨rfl, x6'⟩
      replace x4 := x4.trans (n5'.ext.trans x6')
      rw [decide_eq_false (show ¬ w.st ∈ [(5 : Int)] by simp [h5])]
      conv => whnf
      refine cw_false rfl (cw_skip ?_)
      refine cw_region rfl ?_
      have x14 := x13.trans x4
      exact ⟨(t + 1, _), ⟨rfl, rfl, rfl, slot_i64 _ _ (by simp) (by show t + 1 < _; omega), trivial⟩, ⟨by show t + 1 ≤ _; omega, x1.trans x14, by rw [hfil, hsh]; simpa using o1.more x14, f1⟩, by show ws.length - (t + 1) < ws.length - t; omega⟩
  · refine cw_seq (cw_no rfl (by show ¬ (t : Int) < _; omega) (cw_exit ?_))
    have tn : t = ws.length := by omega
    subst tn
    rw [List.take_length] at o1 f1
    rw [List.take_length]
    refine cw_seq (cw_region rfl ?_)
    exact cw_ret ⟨o1, x1, f1⟩
end Go.Proofs.Ytcmjgkjnnmfijaa
