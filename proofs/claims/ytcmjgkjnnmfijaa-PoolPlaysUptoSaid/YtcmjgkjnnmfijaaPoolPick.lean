/-
  Package pool's Pick.
-/
import Derived.Test.YtcmjgkjnnmfijaaPoolStart
namespace Go.Proofs.Ytcmjgkjnnmfijaa
open Go Vm
set_option maxRecDepth 100000
set_option linter.unusedVariables false
def canW (key : List UInt8) (w : Wk) : Prop := w.key = key ∧ (w.st = 2 ∨ (w.st = 3 ∧ w.ld < w.sl))
instance (key : List UInt8) (w : Wk) : Decidable (canW key w) := by unfold canW; infer_instance
def pickStep (key : List UInt8) (b w : Wk) : Wk := if canW key w ∧ (b = zeroW ∨ w.ld < b.ld) then w else b
def pickB (key : List UInt8) (ws : List Wk) : Wk := ws.foldl (pickStep key) zeroW
theorem foldl_take_succ {α β : Type} (f : β → α → β) (b : β) (l : List α) (t : Nat) (w : α) (hw : l[t]? = some w) : (l.take (t + 1)).foldl f b = f ((l.take t).foldl f b) w := by
  rw [List.take_add_one, hw, List.foldl_append]
  rfl
theorem zeroW_key : zeroW.key.length = 32 := by decide
theorem splice_wk {a b : Wk} (ha : a.key.length = 32) (hb : b.key.length = 32) : splice (wkC b) 0 (wkC a) = wkC a := by
  have h1 := wkC_length ha
  have h2 := wkC_length hb
  unfold splice
  rw [List.take_zero, List.nil_append, List.drop_eq_nil_of_le (by omega), List.append_nil]
theorem store_wk {h : Heap} {b : Nat} {a w : Wk} {K : Heap → Prop} (hb : Blk h b (wkC a) 31) (ha : a.key.length = 32) (hw : w.key.length = 32) (H : ∀ h', Wrote h h' b (wkC w) 31 → K h') :
    ∃ l t, Blk h b l t ∧ (0 + (wkC w).toArray.size ≤ l.length ∧ (wkC w).toArray.size = 37 ∧ ∀ x ∈ (wkC w).toArray.toList, x.oneCell' = true) ∧ ∀ h', Wrote h h' b (splice l 0 (wkC w).toArray.toList) t → K h' := by
  have h1 := wkC_length ha
  have h2 := wkC_length hw
  refine ⟨_, _, hb, ⟨by show 0 + (wkC w).length ≤ _; omega, h2, wkC_one w⟩, fun h' w' => H h' ?_⟩
  exact w'.cast (splice_wk hw ha)
theorem pick_fn {h : Heap} {p : Nat} {v : Value} {wk sl id : Int} {ws : List Wk} (key : List UInt8) (hkey : key.length = 32) (A : PoolAt h p v wk sl id ws) (hwk : 0 < wk) :
    Fx Try.prog 29 #[.pointer (some ⟨p, 0, none⟩), .agg (key.map u8v).toArray] h fun u h' => u = .tuple #[.int .i64 (pickB key ws).n, .bool (decide (0 < (pickB key ws).n))] ∧ ExtH h h' := by
  refine fn_of 63 Try.func29 rfl (by kernel_rfl) rfl (by simp) ?_
  obtain ⟨va, vc, hve, hvm⟩ := A.fix
  have hmax : maxLen < 9223372036854775808 := by decide
  refine cw_seq (cw_region rfl ?_)
  conv => whnf
  intro ha na
  have ya : Blk ha h.size (key.map u8v) 29 := na.blk
  have xa := na.ext
  have za := na.size
  clear na
  refine cw_seq (cw_seq (cw_region rfl ?_))
  conv => whnf
  refine ⟨_, rfl, _, made_fn (A.more xa), ?_⟩
  rw [decide_eq_true hwk]
  rintro _ h0 ⟨rfl, e⟩
  subst h0
  conv => whnf
  refine cw_false rfl (cw_skip ?_)
  refine cw_seq (cw_region rfl ?_)
  conv => whnf
  intro hb nb
  have yb : Blk hb ha.size (wkC zeroW) 31 := nb.blk
  have xb := nb.ext
  have zb := nb.size
  clear nb
  replace ya := xb.blk ya
  refine cw_seq (cw_seq (cw_region rfl ?_))
  conv => whnf
  refine ⟨_, (A.more (xa.trans xb)).blk.rd (o := 3) rfl, ?_⟩
  subst hve
  conv => whnf
  refine cw_block ?_
  refine cw_loop (S := Nat) (fun t => [(3, .pointer (some ⟨h.size, 0, none⟩)), (6, .pointer (some ⟨ha.size, 0, none⟩)), (16, .slice va ws.length vc), (17, .int .i64 (ws.length : Int)), (18, .int .i64 (t : Int))])
    (fun t h' => t ≤ ws.length ∧ ExtH h h' ∧ Blk h' h.size (key.map u8v) 29 ∧ Blk h' ha.size (wkC (pickB key (ws.take t))) 31 ∧ (pickB key (ws.take t)).key.length = 32) (fun t => ws.length - t) 0 ⟨rfl, rfl, rfl, rfl, rfl, trivial⟩
    ⟨by omega, xa.trans xb, ya, yb, zeroW_key⟩ ?_
  clear ya yb
  rintro t h1 ⟨ht, x1, y1, b1, hbk⟩
  have eb : ∀ w, ws[t]? = some w → pickB key (ws.take (t + 1)) = pickStep key (pickB key (ws.take t)) w := fun w hw => foldl_take_succ _ _ _ _ _ hw
  have efin : pickB key (ws.take ws.length) = pickB key ws := by rw [List.take_length]
  generalize hB : pickB key (ws.take t) = B at b1 hbk eb
  refine cw_seq (cw_region rfl ?_)
  by_cases hlt : t < ws.length
  · refine cw_seq (cw_yes rfl (by omega) (cw_skip ?_))
    have A1 := A.more x1
    have hw : ws[t]? = some ws[t] := List.getElem?_eq_getElem hlt
    generalize ws[t] = w at hw
    replace eb := eb w hw
    have hk := keysOk_get A.keys hw
    obtain ⟨g, c, tl, hv, hb, _⟩ := A1.slot hlt
    injection hv with hv1 _ hv2
    subst hv1 hv2
    refine cw_seq (cw_block (cw_seq (cw_region rfl ?_)))
    conv => whnf
    refine ⟨⟨by omega, by omega⟩, ?_⟩
    conv => whnf
    refine ⟨wkC w, by rw [wkC_length hk]; rfl, fun k u hu => hb.rd (by
      have := cellsW_at A.keys hw tl k u hu
      rwa [show t * 37 + k = 0 + ((t : Int)).toNat * 37 + k by omega] at this), ?_⟩
    conv => whnf
    intro h2 n2
    conv => whnf
    refine store_wk (a := zeroW) n2.blk zeroW_key hk ?_
    intro h3 w3
    have z1 := x1.size; have z2 := n2.size; have z3 := w3.size
    have x13 : ExtH h1 h3 := ⟨by omega, fun b hb => by rw [w3.block b (by omega), n2.block b (by omega)]⟩
    have y3 := w3.new
    have k3 := x13.blk y1
    have b3 := x13.blk b1
    have z13 := x13.size
    refine cw_seq (cw_region rfl ?_)
    conv => whnf
    refine ⟨w.key.map u8v, by rw [List.length_map, hk]; rfl, (y3.rdN 3 (w.key.map u8v) (by simp [wkC])), ?_⟩
    conv => whnf
    refine ⟨key.map u8v, by rw [List.length_map, hkey]; rfl, k3.all, ?_⟩
    conv => whnf
    by_cases hkk : w.key = key
    · refine ⟨.bool true, fun wd => by rw [dig_eq _ _ _ _ hk hkey, decide_eq_true hkk], ?_⟩
      conv => whnf
      refine ⟨wkC w, by rw [wkC_length hk]; rfl, y3.all, ?_⟩
      conv => whnf
      refine ⟨_, rfl, #[.int .i64 2], 77, fun w => by kernel_rfl, ?_⟩
      intro h4 n4
      conv => whnf
      refine ⟨_, rfl, _, is_fn w hk (RI.of_newed n4 (l := [2]) rfl rfl (by decide)), ?_⟩
      rintro _ h5 ⟨rfl, x5⟩
      replace x5 := n4.ext.trans x5
      clear n4
      by_cases h2' : w.st = 2
      · rw [decide_eq_true (show w.st ∈ [(2 : Int)] by simp [h2'])]
        have hcan : canW key w := ⟨hkk, .inl h2'⟩
        conv => whnf
        refine cw_seq (cw_region rfl ?_)
        conv => whnf
        have b5 := x5.blk b3
        refine ⟨wkC B, by rw [wkC_length hbk]; rfl, b5.all, ?_⟩
        conv => whnf
        refine ⟨_, rfl, (wkC zeroW).toArray, fun w => by kernel_rfl, ?_⟩
        conv => whnf
        have y5 := x5.blk y3
        have x15 := x13.trans x5
        have z5 := x5.size
        by_cases hb0 : B = zeroW
        · refine ⟨.bool true, fun wd => by rw [wk_eq _ _ hbk zeroW_key, decide_eq_true hb0], ?_⟩
          have es : pickStep key B w = w := by unfold pickStep; rw [if_pos ⟨hcan, .inl hb0⟩]
          rw [es] at eb
          conv => whnf
          refine cw_true rfl ?_
          refine cw_region rfl ?_
          conv => whnf
          refine ⟨wkC w, by rw [wkC_length hk]; rfl, y5.all, ?_⟩
          conv => whnf
          refine store_wk (a := B) b5 hbk hk ?_
          intro h6 w6
          have z6 := w6.size
          refine cw_region rfl ?_
          exact ⟨t + 1, ⟨rfl, rfl, rfl, rfl, slot_i64 _ _ (by omega) (by omega), trivial⟩, ⟨by omega, ⟨by omega, fun b hb => by rw [w6.block b (by omega), (x1.trans x15).block b hb]⟩, w6.blk (x5.blk k3) (by omega), by rw [eb]; exact w6.new, by rw [eb]; exact hk⟩, by omega⟩
        · refine ⟨.bool false, fun wd => by rw [wk_eq _ _ hbk zeroW_key, decide_eq_false hb0], ?_⟩
          conv => whnf
          refine ⟨_, y5.rd (wkC_get_ld hk), ?_⟩
          conv => whnf
          refine ⟨_, b5.rd (wkC_get_ld hbk), ?_⟩
          conv => whnf
          by_cases hless : w.ld < B.ld
          · have es : pickStep key B w = w := by unfold pickStep; rw [if_pos ⟨hcan, .inr hless⟩]
            rw [es] at eb
            refine cw_yes rfl hless ?_
            refine cw_region rfl ?_
            conv => whnf
            refine ⟨wkC w, by rw [wkC_length hk]; rfl, y5.all, ?_⟩
            conv => whnf
            refine store_wk (a := B) b5 hbk hk ?_
            intro h6 w6
            have z6 := w6.size
            refine cw_region rfl ?_
            exact ⟨t + 1, ⟨rfl, rfl, rfl, rfl, slot_i64 _ _ (by omega) (by omega), trivial⟩, ⟨by omega, ⟨by omega, fun b hb => by rw [w6.block b (by omega), (x1.trans x15).block b hb]⟩, w6.blk (x5.blk k3) (by omega), by rw [eb]; exact w6.new, by rw [eb]; exact hk⟩, by omega⟩
          · have es : pickStep key B w = B := by unfold pickStep; rw [if_neg (fun e => e.2.elim hb0 hless)]
            rw [es] at eb
            refine cw_no rfl hless (cw_skip ?_)
            refine cw_region rfl ?_
            exact ⟨t + 1, ⟨rfl, rfl, rfl, rfl, slot_i64 _ _ (by omega) (by omega), trivial⟩, ⟨by omega, x1.trans x15, x5.blk k3, by rw [eb]; exact b5, by rw [eb]; exact hbk⟩, by omega⟩
      · rw [decide_eq_false (show ¬ w.st ∈ [(2 : Int)] by simp [h2'])]
        conv => whnf
        refine ⟨wkC w, by rw [wkC_length hk]; rfl, (x5.blk y3).all, ?_⟩
        conv => whnf
        refine ⟨_, rfl, #[.int .i64 3], 77, fun w => by kernel_rfl, ?_⟩
        intro h4 n4
        conv => whnf
        refine ⟨_, rfl, _, is_fn w hk (RI.of_newed n4 (l := [3]) rfl rfl (by decide)), ?_⟩
        rintro _ h5 ⟨rfl, x5'⟩
        replace x5 := x5.trans (n4.ext.trans x5')
        clear n4 x5'
        by_cases h3' : w.st = 3
        · rw [decide_eq_true (show w.st ∈ [(3 : Int)] by simp [h3'])]
          conv => whnf
          refine ⟨_, (x5.blk y3).rd (wkC_get_ld hk), ?_⟩
          conv => whnf
          refine ⟨_, (x5.blk y3).rd (o := 2) rfl, ?_⟩
          conv => whnf
          by_cases hl : w.ld < w.sl
          · have hcan : canW key w := ⟨hkk, .inr ⟨h3', hl⟩⟩
            refine cw_seq (cw_region rfl ?_)
            refine ops_q (v := .bool true) rfl rfl (fun k hk => say true (decide_eq_true hl) hk) ?_
            conv => whnf
            have b5 := x5.blk b3
            refine ⟨wkC B, by rw [wkC_length hbk]; rfl, b5.all, ?_⟩
            conv => whnf
            refine ⟨_, rfl, (wkC zeroW).toArray, fun w => by kernel_rfl, ?_⟩
            conv => whnf
            have y5 := x5.blk y3
            have x15 := x13.trans x5
            have z5 := x5.size
            by_cases hb0 : B = zeroW
            · refine ⟨.bool true, fun wd => by rw [wk_eq _ _ hbk zeroW_key, decide_eq_true hb0], ?_⟩
              have es : pickStep key B w = w := by unfold pickStep; rw [if_pos ⟨hcan, .inl hb0⟩]
              rw [es] at eb
              conv => whnf
              refine cw_true rfl ?_
              refine cw_region rfl ?_
              conv => whnf
              refine ⟨wkC w, by rw [wkC_length hk]; rfl, y5.all, ?_⟩
              conv => whnf
              refine store_wk (a := B) b5 hbk hk ?_
              intro h6 w6
              have z6 := w6.size
              refine cw_region rfl ?_
              exact ⟨t + 1, ⟨rfl, rfl, rfl, rfl, slot_i64 _ _ (by omega) (by omega), trivial⟩, ⟨by omega, ⟨by omega, fun b hb => by rw [w6.block b (by omega), (x1.trans x15).block b hb]⟩, w6.blk (x5.blk k3) (by omega), by rw [eb]; exact w6.new, by rw [eb]; exact hk⟩, by omega⟩
            · refine ⟨.bool false, fun wd => by rw [wk_eq _ _ hbk zeroW_key, decide_eq_false hb0], ?_⟩
              conv => whnf
              refine ⟨_, y5.rd (wkC_get_ld hk), ?_⟩
              conv => whnf
              refine ⟨_, b5.rd (wkC_get_ld hbk), ?_⟩
              conv => whnf
              by_cases hless : w.ld < B.ld
              · have es : pickStep key B w = w := by unfold pickStep; rw [if_pos ⟨hcan, .inr hless⟩]
                rw [es] at eb
                refine cw_yes rfl hless ?_
                refine cw_region rfl ?_
                conv => whnf
                refine ⟨wkC w, by rw [wkC_length hk]; rfl, y5.all, ?_⟩
                conv => whnf
                refine store_wk (a := B) b5 hbk hk ?_
                intro h6 w6
                have z6 := w6.size
                refine cw_region rfl ?_
                exact ⟨t + 1, ⟨rfl, rfl, rfl, rfl, slot_i64 _ _ (by omega) (by omega), trivial⟩, ⟨by omega, ⟨by omega, fun b hb => by rw [w6.block b (by omega), (x1.trans x15).block b hb]⟩, w6.blk (x5.blk k3) (by omega), by rw [eb]; exact w6.new, by rw [eb]; exact hk⟩, by omega⟩
              · have es : pickStep key B w = B := by unfold pickStep; rw [if_neg (fun e => e.2.elim hb0 hless)]
                rw [es] at eb
                refine cw_no rfl hless (cw_skip ?_)
                refine cw_region rfl ?_
                exact ⟨t + 1, ⟨rfl, rfl, rfl, rfl, slot_i64 _ _ (by omega) (by omega), trivial⟩, ⟨by omega, x1.trans x15, x5.blk k3, by rw [eb]; exact b5, by rw [eb]; exact hbk⟩, by omega⟩
          · have hcan : ¬ canW key w := fun e => e.2.elim h2' (fun e => hl e.2)
            refine cw_seq (cw_region rfl ?_)
            refine ops_q (v := .bool false) rfl rfl (fun k hk => say false (decide_eq_false hl) hk) ?_
            conv => whnf
            have es : pickStep key B w = B := by unfold pickStep; rw [if_neg (fun e => hcan e.1)]
            rw [es] at eb
            refine cw_false rfl (cw_skip ?_)
            have x15 := x13.trans x5
            refine cw_region rfl ?_
            exact ⟨t + 1, ⟨rfl, rfl, rfl, rfl, slot_i64 _ _ (by omega) (by omega), trivial⟩, ⟨by omega, x1.trans x15, x5.blk k3, by rw [eb]; exact x5.blk b3, by rw [eb]; exact hbk⟩, by omega⟩
        · rw [decide_eq_false (show ¬ w.st ∈ [(3 : Int)] by simp [h3'])]
          have hcan : ¬ canW key w := fun e => e.2.elim h2' (fun e => h3' e.1)
          conv => whnf
          refine cw_seq (cw_region rfl ?_)
          conv => whnf
          have es : pickStep key B w = B := by unfold pickStep; rw [if_neg (fun e => hcan e.1)]
          rw [es] at eb
          refine cw_false rfl (cw_skip ?_)
          have x15 := x13.trans x5
          refine cw_region rfl ?_
          exact ⟨t + 1, ⟨rfl, rfl, rfl, rfl, slot_i64 _ _ (by omega) (by omega), trivial⟩, ⟨by omega, x1.trans x15, x5.blk k3, by rw [eb]; exact x5.blk b3, by rw [eb]; exact hbk⟩, by omega⟩
    · refine ⟨.bool false, fun wd => by rw [dig_eq _ _ _ _ hk hkey, decide_eq_false hkk], ?_⟩
      have hcan : ¬ canW key w := fun e => hkk e.1
      have x5 := ExtH.refl h3
      conv => whnf
      refine cw_seq (cw_region rfl ?_)
      conv => whnf
      have es : pickStep key B w = B := by unfold pickStep; rw [if_neg (fun e => hcan e.1)]
      rw [es] at eb
      refine cw_false rfl (cw_skip ?_)
      have x15 := x13.trans x5
      refine cw_region rfl ?_
      exact ⟨t + 1, ⟨rfl, rfl, rfl, rfl, slot_i64 _ _ (by omega) (by omega), trivial⟩, ⟨by omega, x1.trans x15, x5.blk k3, by rw [eb]; exact x5.blk b3, by rw [eb]; exact hbk⟩, by omega⟩
  · refine cw_seq (cw_no rfl (by omega) (cw_exit ?_))
    have tn : t = ws.length := by omega
    subst tn
    rw [efin] at hB
    subst hB
    refine cw_seq ?_
    refine cw_drawn (by kernel_rfl) 6 (fun _ => false) (List.range 6) (by kernel_rfl) rfl ?_
    conv => whnf
    refine ⟨_, b1.rd (o := 0) rfl, ?_⟩
    conv => whnf
    refine ⟨_, b1.rd (o := 0) rfl, ?_⟩
    conv => whnf
    intro h2 x2
    exact cw_ret ⟨rfl, x1.trans x2⟩
end Go.Proofs.Ytcmjgkjnnmfijaa
