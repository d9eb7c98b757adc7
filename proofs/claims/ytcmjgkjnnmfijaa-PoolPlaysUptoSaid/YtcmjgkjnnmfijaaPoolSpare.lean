/-
  Package pool's Spare.
-/
import Derived.Test.YtcmjgkjnnmfijaaPoolKeys
namespace Go.Proofs.Ytcmjgkjnnmfijaa
open Go Vm
set_option maxRecDepth 100000
set_option linter.unusedVariables false
def freeW (ks : List (List UInt8)) (w : Wk) : Prop := w.st = 2 ∧ w.key ∉ ks
instance (ks : List (List UInt8)) (w : Wk) : Decidable (freeW ks w) := by unfold freeW; infer_instance
def spareStep (ks : List (List UInt8)) (b w : Wk) : Wk := if freeW ks w ∧ (b = zeroW ∨ b.id < w.id) then w else b
def spareB (ks : List (List UInt8)) (ws : List Wk) : Wk := ws.foldl (spareStep ks) zeroW
theorem spare_fn {h : Heap} {p : Nat} {v kv : Value} {wk sl id : Int} {ws : List Wk} {ks : List (List UInt8)} (rk : RK h kv ks) (h32 : all32 ks) (A : PoolAt h p v wk sl id ws) (hwk : 0 < wk) :
    Fx Try.prog 21 #[.pointer (some ⟨p, 0, none⟩), kv] h fun u h' => u = .tuple #[.int .i64 (spareB ks ws).n, .bool (decide (0 < (spareB ks ws).n))] ∧ ExtH h h' := by
  refine fn_of 50 Try.func21 rfl (by kernel_rfl) rfl (by simp) ?_
  obtain ⟨ka, kc, hke, _⟩ := rk.fix
  subst hke
  obtain ⟨va, vc, hve, hvm⟩ := A.fix
  have hmax : maxLen < 9223372036854775808 := by decide
  refine cw_seq (cw_region rfl ?_)
  refine cw_seq (cw_seq (cw_region rfl ?_))
  conv => whnf
  refine ⟨_, rfl, _, made_fn A, ?_⟩
  rw [decide_eq_true hwk]
  rintro _ h0 ⟨rfl, e⟩
  subst h0
  conv => whnf
  refine cw_false rfl (cw_skip ?_)
  refine cw_seq (cw_region rfl ?_)
  conv => whnf
  intro hb nb
  have yb : Blk hb h.size (wkC zeroW) 31 := nb.blk
  have xb := nb.ext
  have zb := nb.size
  clear nb
  refine cw_seq (cw_seq (cw_region rfl ?_))
  conv => whnf
  refine ⟨_, (A.more xb).blk.rd (o := 3) rfl, ?_⟩
  subst hve
  conv => whnf
  refine cw_block ?_
  refine cw_loop (S := Nat) (fun t => [(1, .slice ka ks.length kc), (6, .pointer (some ⟨h.size, 0, none⟩)), (15, .slice va ws.length vc), (16, .int .i64 (ws.length : Int)), (17, .int .i64 (t : Int))])
    (fun t h' => t ≤ ws.length ∧ ExtH h h' ∧ Blk h' h.size (wkC (spareB ks (ws.take t))) 31 ∧ (spareB ks (ws.take t)).key.length = 32) (fun t => ws.length - t) 0 ⟨rfl, rfl, rfl, rfl, rfl, trivial⟩
    ⟨by omega, xb, yb, zeroW_key⟩ ?_
  clear yb
  rintro t h1 ⟨ht, x1, b1, hbk⟩
  have eb : ∀ w, ws[t]? = some w → spareB ks (ws.take (t + 1)) = spareStep ks (spareB ks (ws.take t)) w := fun w hw => foldl_take_succ _ _ _ _ _ hw
  have efin : spareB ks (ws.take ws.length) = spareB ks ws := by rw [List.take_length]
  generalize hB : spareB ks (ws.take t) = B at b1 hbk eb
  refine cw_seq (cw_region rfl ?_)
  by_cases hlt : t < ws.length
  · refine cw_seq (cw_yes rfl (by omega) (cw_skip ?_))
    have A1 := A.more x1
    have hw : ws[t]? = some ws[t] := List.getElem?_eq_getElem hlt
    generalize ws[t] = w at hw
    replace eb := eb w hw
    have hk := keysOk_get A.keys hw
    obtain ⟨g, c, tl, hv, hb, _⟩ := A1.slot hlt
    injection hv with hv1 _ hv2
    subst hv1 hv2
    refine cw_seq (cw_block (cw_seq (cw_region rfl ?_)))
    conv => whnf
    refine ⟨⟨by omega, by omega⟩, ?_⟩
    conv => whnf
    refine ⟨wkC w, by rw [wkC_length hk]; rfl, fun k u hu => hb.rd (by
      have := cellsW_at A.keys hw tl k u hu
      rwa [show t * 37 + k = 0 + ((t : Int)).toNat * 37 + k by omega] at this), ?_⟩
    conv => whnf
    intro h2 n2
    conv => whnf
    refine store_wk (a := zeroW) n2.blk zeroW_key hk ?_
    intro h3 w3
    have z1 := x1.size; have z2 := n2.size; have z3 := w3.size
    have x13 : ExtH h1 h3 := ⟨by omega, fun b hb => by rw [w3.block b (by omega), n2.block b (by omega)]⟩
    have y3 := w3.new
    have b3 := x13.blk b1
    have z13 := x13.size
    refine cw_seq (cw_region rfl ?_)
    conv => whnf
    refine ⟨wkC w, by rw [wkC_length hk]; rfl, y3.all, ?_⟩
    conv => whnf
    refine ⟨_, rfl, #[.int .i64 2], 77, fun w => by kernel_rfl, ?_⟩
    intro h4 n4
    conv => whnf
    refine ⟨_, rfl, _, is_fn w hk (RI.of_newed n4 (l := [2]) rfl rfl (by decide)), ?_⟩
    rintro _ h5 ⟨rfl, x5⟩
    replace x5 := n4.ext.trans x5
    clear n4
    by_cases h2' : w.st = 2
    · rw [decide_eq_true (show w.st ∈ [(2 : Int)] by simp [h2'])]
      conv => whnf
      refine ⟨w.key.map u8v, by rw [List.length_map, hk]; rfl, ((x5.blk y3).rdN 3 (w.key.map u8v) (by simp [wkC])), ?_⟩
      conv => whnf
      refine ⟨_, rfl, _, dcontains_fn w.key hk (rk.more (x1.trans (x13.trans x5))) h32, ?_⟩
      rintro _ h6 ⟨rfl, x6⟩
      replace x5 := x5.trans x6
      clear x6
      by_cases hin : w.key ∈ ks
      · rw [decide_eq_true hin]
        have hcan : ¬ freeW ks w := fun e => e.2 hin
        conv => whnf
        have es : spareStep ks B w = B := by unfold spareStep; rw [if_neg (fun e => hcan e.1)]
        rw [es] at eb
        refine cw_false rfl (cw_skip ?_)
        have x15 := x13.trans x5
        refine cw_region rfl ?_
        exact ⟨t + 1, ⟨rfl, rfl, rfl, rfl, slot_i64 _ _ (by omega) (by omega), trivial⟩, ⟨by omega, x1.trans x15, by rw [eb]; exact x5.blk b3, by rw [eb]; exact hbk⟩, by omega⟩
      · rw [decide_eq_false hin]
        have hcan : freeW ks w := ⟨h2', hin⟩
        conv => whnf
        have b5 := x5.blk b3
        refine ⟨wkC B, by rw [wkC_length hbk]; rfl, b5.all, ?_⟩
        conv => whnf
        refine ⟨_, rfl, (wkC zeroW).toArray, fun w => by kernel_rfl, ?_⟩
        conv => whnf
        have y5 := x5.blk y3
        have x15 := x13.trans x5
        have z5 := x5.size
        by_cases hb0 : B = zeroW
        · refine ⟨.bool true, fun wd => by rw [wk_eq _ _ hbk zeroW_key, decide_eq_true hb0], ?_⟩
          have es : spareStep ks B w = w := by unfold spareStep; rw [if_pos ⟨hcan, .inl hb0⟩]
          rw [es] at eb
          conv => whnf
          refine cw_true rfl ?_
          refine cw_region rfl ?_
          conv => whnf
          refine ⟨wkC w, by rw [wkC_length hk]; rfl, y5.all, ?_⟩
          conv => whnf
          refine store_wk (a := B) b5 hbk hk ?_
          intro h6 w6
          have z6 := w6.size
          refine cw_region rfl ?_
          exact ⟨t + 1, ⟨rfl, rfl, rfl, rfl, slot_i64 _ _ (by omega) (by omega), trivial⟩, ⟨by omega, ⟨by omega, fun b hb => by rw [w6.block b (by omega), (x1.trans x15).block b hb]⟩, by rw [eb]; exact w6.new, by rw [eb]; exact hk⟩, by omega⟩
        · refine ⟨.bool false, fun wd => by rw [wk_eq _ _ hbk zeroW_key, decide_eq_false hb0], ?_⟩
          conv => whnf
          refine ⟨_, y5.rd (wkC_get_id hk), ?_⟩
          conv => whnf
          refine ⟨_, b5.rd (wkC_get_id hbk), ?_⟩
          conv => whnf
          by_cases hless : B.id < w.id
          · have es : spareStep ks B w = w := by unfold spareStep; rw [if_pos ⟨hcan, .inr hless⟩]
            rw [es] at eb
            refine cw_yes rfl hless ?_
            refine cw_region rfl ?_
            conv => whnf
            refine ⟨wkC w, by rw [wkC_length hk]; rfl, y5.all, ?_⟩
            conv => whnf
            refine store_wk (a := B) b5 hbk hk ?_
            intro h6 w6
            have z6 := w6.size
            refine cw_region rfl ?_
            exact ⟨t + 1, ⟨rfl, rfl, rfl, rfl, slot_i64 _ _ (by omega) (by omega), trivial⟩, ⟨by omega, ⟨by omega, fun b hb => by rw [w6.block b (by omega), (x1.trans x15).block b hb]⟩, by rw [eb]; exact w6.new, by rw [eb]; exact hk⟩, by omega⟩
          · have es : spareStep ks B w = B := by unfold spareStep; rw [if_neg (fun e => e.2.elim hb0 hless)]
            rw [es] at eb
            refine cw_no rfl hless (cw_skip ?_)
            refine cw_region rfl ?_
            exact ⟨t + 1, ⟨rfl, rfl, rfl, rfl, slot_i64 _ _ (by omega) (by omega), trivial⟩, ⟨by omega, x1.trans x15, by rw [eb]; exact b5, by rw [eb]; exact hbk⟩, by omega⟩
    · rw [decide_eq_false (show ¬ w.st ∈ [(2 : Int)] by simp [h2'])]
      have hcan : ¬ freeW ks w := fun e => h2' e.1
      conv => whnf
      have es : spareStep ks B w = B := by unfold spareStep; rw [if_neg (fun e => hcan e.1)]
      rw [es] at eb
      refine cw_false rfl (cw_skip ?_)
      have x15 := x13.trans x5
      refine cw_region rfl ?_
      exact ⟨t + 1, ⟨rfl, rfl, rfl, rfl, slot_i64 _ _ (by omega) (by omega), trivial⟩, ⟨by omega, x1.trans x15, by rw [eb]; exact x5.blk b3, by rw [eb]; exact hbk⟩, by omega⟩
  · refine cw_seq (cw_no rfl (by omega) (cw_exit ?_))
    have tn : t = ws.length := by omega
    subst tn
    rw [efin] at hB
    subst hB
    refine cw_seq ?_
    refine cw_drawn (by kernel_rfl) 6 (fun _ => false) (List.range 6) (by kernel_rfl) rfl ?_
    conv => whnf
    refine ⟨_, b1.rd (o := 0) rfl, ?_⟩
    conv => whnf
    refine ⟨_, b1.rd (o := 0) rfl, ?_⟩
    conv => whnf
    intro h2 x2
    exact cw_ret ⟨rfl, x1.trans x2⟩
end Go.Proofs.Ytcmjgkjnnmfijaa
