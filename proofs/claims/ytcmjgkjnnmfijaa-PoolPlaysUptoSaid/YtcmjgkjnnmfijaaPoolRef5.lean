/-
  The document's pool: Pick, Spare. Printed by tools/genref5.py.
-/
import Derived.Test.YtcmjgkjnnmfijaaPoolRef4
namespace Go.Proofs.Ytcmjgkjnnmfijaa
open Go Vm
set_option maxRecDepth 100000
set_option linter.unusedVariables false
set_option linter.unusedSimpArgs false
set_option maxHeartbeats 1000000
theorem best_n {wk sl id : Int} {ws : List Wk} (I : Inv wk sl id ws) {B : Wk} (hB : B = zeroW ∨ B ∈ ws) : (B.n = 0 ↔ B = zeroW) ∧ (B.n ≠ 0 → ∃ j : Nat, ws[j]? = some B ∧ B.n = (j : Int) + 1 ∧ j < ws.length) := by
  rcases hB with rfl | hB
  · exact ⟨⟨fun _ => rfl, fun _ => rfl⟩, fun h => absurd rfl h⟩
  · obtain ⟨j, hj, e⟩ := List.getElem_of_mem hB
    have hw : ws[j]? = some B := by rw [List.getElem?_eq_getElem hj, e]
    have hn := I.num j B hw
    refine ⟨⟨fun h => by omega, fun h => ?_⟩, fun _ => ⟨j, hw, hn, hj⟩⟩
    rw [h] at hn
    have : (0 : Int) = (j : Int) + 1 := hn
    omega
theorem rpick_fn {h : Heap} {wv : Value} {wk sl id : Int} {ws : List Wk} (key : List UInt8) (hkey : key.length = 32) (o : OW h wv ws) (kk : keysOk ws) (I : Inv wk sl id ws) :
    Fx Try.prog 48 #[.agg (refC wk sl id wv).toArray, .agg (key.map u8v).toArray] h fun u h' => u = .tuple #[.int .i64 (pickB key ws).n, .bool (decide (0 < (pickB key ws).n))] ∧ ExtH h h' := by
  refine fn_of 65 Try.func48 rfl (by kernel_rfl) rfl (by simp) ?_
  obtain ⟨va, vc, hve, hvm⟩ := o.fix
  subst hve
  have hmax : maxLen < 9223372036854775808 := by decide
  refine cw_seq (cw_region rfl ?_)
  conv => whnf
  intro h1 n1
  have y1 : Blk h1 h.size (refC wk sl id (.slice va ws.length vc)) 53 := n1.blk
  have x1 := n1.ext
  have z1 := n1.size
  clear n1
  conv => whnf
  intro h2 n2
  have yk : Blk h2 h1.size (key.map u8v) 29 := n2.blk
  have x2 := n2.ext
  clear n2
  replace y1 := x2.blk y1
  have x02 := x1.trans x2
  have o2 := o.more x02
  conv => whnf
  refine cw_seq (cw_region rfl ?_)
  refine cw_seq (cw_seq (cw_region rfl ?_))
  refine cw_block ?_
  refine cw_loop (S := Nat) (fun t => [(2, .pointer (some ⟨h.size, 0, none⟩)), (3, .pointer (some ⟨h1.size, 0, none⟩)), (6, .int .i64 (pickB key (ws.take t)).n), (7, .int .i64 (t : Int))])
    (fun t h' => t ≤ ws.length ∧ ExtH h2 h') (fun t => ws.length - t) 0 ⟨rfl, rfl, rfl, rfl, trivial⟩ ⟨by omega, ExtH.refl _⟩ ?_
  rintro t h3 ⟨ht, x3⟩
  have y3 := x3.blk y1
  have yk3 := x3.blk yk
  have eb : ∀ w, ws[t]? = some w → pickB key (ws.take (t + 1)) = pickStep key (pickB key (ws.take t)) w := fun w hw => foldl_take_succ _ _ _ _ _ hw
  have efin : pickB key (ws.take ws.length) = pickB key ws := by rw [List.take_length]
  have hBm : pickB key (ws.take t) = zeroW ∨ pickB key (ws.take t) ∈ ws := (pick_best key (ws.take t)).imp (fun e => e) (fun e => List.mem_of_mem_take e.1)
  generalize hB : pickB key (ws.take t) = B at eb hBm
  have hbn := best_n I hBm
  refine cw_seq (cw_seq (cw_region rfl ?_))
  conv => whnf
  refine ⟨_, y3.rd (o := 3) rfl, ?_⟩
  conv => whnf
  by_cases hlt : t < ws.length
  · refine cw_yes rfl (by show (t : Int) < _; omega) (cw_skip ?_)
    have hw : ws[t]? = some ws[t] := List.getElem?_eq_getElem hlt
    generalize ws[t] = w at hw
    replace eb := eb w hw
    have hk := keysOk_get kk hw
    obtain ⟨g, c, hv, hr⟩ := (o2.more x3).get kk hw
    injection hv with hv1 _ hv2
    subst hv1 hv2
    refine cw_seq (cw_block (cw_seq (cw_region rfl ?_)))
    conv => whnf
    refine ⟨_, y3.rd (o := 3) rfl, ?_⟩
    conv => whnf
    refine ⟨⟨by omega, by omega⟩, ?_⟩
    conv => whnf
    refine ⟨wkC w, by rw [wkC_length hk]; rfl, by rwa [show t * 37 = 0 + ((t : Int)).toNat * 37 by omega] at hr, ?_⟩
    conv => whnf
    intro h4 n4
    conv => whnf
    refine store_wk (a := zeroW) n4.blk zeroW_key hk ?_
    intro h5 w5
    have z3 := x3.size; have z4 := n4.size; have z5 := w5.size
    have x35 : ExtH h3 h5 := ⟨by omega, fun b hb => by rw [w5.block b (by omega), n4.block b (by omega)]⟩
    have y5 := w5.new
    replace y3 := x35.blk y3
    clear n4 w5
    replace yk3 := x35.blk yk3
    have better : canW key w → (B = zeroW ∨ w.ld < B.ld) → pickStep key B w = w := fun h1 h2 => by unfold pickStep; rw [if_pos ⟨h1, h2⟩]
    have worse : B ≠ zeroW → ¬ w.ld < B.ld → pickStep key B w = B := fun h1 h2 => by unfold pickStep; rw [if_neg (fun e => e.2.elim h1 h2)]
    have never : ¬ canW key w → pickStep key B w = B := fun h1 => by unfold pickStep; rw [if_neg (fun e => h1 e.1)]
    have drawn : ∀ {c : Bool}, c = true → c = true := fun h => h
    refine cw_seq (cw_region rfl ?_)
    conv => whnf
    refine ⟨_, y5.rd (o := 1) rfl, ?_⟩
    by_cases h2' : w.st = 2
    · refine ops_q (v := .bool true) rfl rfl (fun k hk => say_eq h2' hk) ?_
      conv => whnf
      have hc1 : w.st = 2 ∨ (w.st = 3 ∧ w.ld < w.sl) := .inl h2'
      refine cw_seq ?_
      refine cw_drawn (by kernel_rfl) 22 (fun _ => false) [0, 1, 2, 3, 4, 5, 6, 7, 8, 9, 10, 11, 12, 13, 14, 15, 16, 17, 18, 19, 20, 21] (by kernel_rfl) rfl ?_
      refine head_q (v := .bool true) rfl rfl rfl rfl (fun k hk => hk) ?_
      conv => whnf
      refine ⟨w.key.map u8v, by rw [List.length_map, hk]; rfl, (y5.rdN 3 (w.key.map u8v) (by simp [wkC])), ?_⟩
      conv => whnf
      refine ⟨key.map u8v, by rw [List.length_map, hkey]; rfl, yk3.all, ?_⟩
      conv => whnf
      by_cases hkk : w.key = key
      · have hcan : canW key w := ⟨hkk, hc1⟩
        refine ⟨.bool true, fun wd => by rw [dig_eq _ _ _ _ hk hkey, decide_eq_true hkk], ?_⟩
        refine head_q rfl rfl rfl rfl (fun k hk => hk) ?_
        refine head_q rfl rfl rfl rfl (fun k hk => hk) ?_
        refine head_g (b := true) rfl rfl rfl rfl rfl rfl (fun k hk => hk) ?_
        by_cases hB0 : B.n = 0
        · refine head_g (v := .bool true) (b := true) rfl rfl rfl rfl rfl rfl (fun k hk => say_eq hB0 hk) ?_
          conv => whnf
          intro h6 x6
          conv => whnf
          have es := better hcan (.inl (hbn.1.1 hB0))
          rw [es] at eb
          refine cw_true rfl ?_
          refine cw_region rfl ?_
          conv => whnf
          refine ⟨_, (x6.blk y5).rd (o := 0) rfl, ?_⟩
          refine cw_region rfl ?_
          exact ⟨t + 1, ⟨rfl, rfl, by show some (Value.int .i64 _) = some (Value.int .i64 _); rw [eb], slot_i64 _ _ (by omega) (by omega), trivial⟩, ⟨by omega, (x3.trans x35).trans x6⟩, by omega⟩
        · refine head_g (v := .bool false) (b := true) rfl rfl rfl rfl rfl rfl (fun k hk => say_eq_no hB0 hk) ?_
          obtain ⟨j, hj, hBn, hjl⟩ := hbn.2 hB0
          have hkB := keysOk_get kk hj
          obtain ⟨g', c', hv', hr'⟩ := ((o2.more x3).more x35).get kk hj
          injection hv' with hv1' _ hv2'
          injection hv1' with hv1'
          injection hv1' with hv1'
          subst hv1'
          conv => whnf
          refine ⟨_, y5.rd (wkC_get_ld hk), ?_⟩
          conv => whnf
          refine ⟨_, y3.rd (o := 3) rfl, ?_⟩
          refine head_g (b := false) rfl rfl rfl rfl rfl rfl (fun k hk => hk) ?_
          refine head_g (v := .int .i64 (j : Int)) (b := false) rfl rfl rfl rfl rfl rfl (fun k hk => by show k (.int .i64 (IntKind.i64.wrap (B.n - 1))); rw [hBn, show (j : Int) + 1 - 1 = (j : Int) by omega, i64_in _ (by omega) (by omega)]; exact hk) ?_
          conv => whnf
          refine ⟨⟨by omega, by omega⟩, ?_⟩
          conv => whnf
          refine ⟨_, by have := hr' 35 _ (wkC_get_ld hkB); rwa [show j * 37 + 35 = 0 + ((j : Int)).toNat * 37 + 35 by omega] at this, ?_⟩
          conv => whnf
          intro h6 x6
          conv => whnf
          by_cases hless : w.ld < B.ld
          · have es := better hcan (.inr hless)
            rw [es] at eb
            refine cw_yes rfl hless ?_
            refine cw_region rfl ?_
            conv => whnf
            refine ⟨_, (x6.blk y5).rd (o := 0) rfl, ?_⟩
            refine cw_region rfl ?_
            exact ⟨t + 1, ⟨rfl, rfl, by show some (Value.int .i64 _) = some (Value.int .i64 _); rw [eb], slot_i64 _ _ (by omega) (by omega), trivial⟩, ⟨by omega, (x3.trans x35).trans x6⟩, by omega⟩
          · have es := worse (fun e => hB0 (hbn.1.2 e)) hless
            rw [es] at eb
            refine cw_no rfl hless (cw_skip ?_)
            refine cw_region rfl ?_
            exact ⟨t + 1, ⟨rfl, rfl, by show some (Value.int .i64 _) = some (Value.int .i64 _); rw [eb], slot_i64 _ _ (by omega) (by omega), trivial⟩, ⟨by omega, (x3.trans x35).trans x6⟩, by omega⟩
      · have hcan : ¬ canW key w := fun e => hkk e.1
        refine ⟨.bool false, fun wd => by rw [dig_eq _ _ _ _ hk hkey, decide_eq_false hkk], ?_⟩
        conv => whnf
        intro h6 x6
        conv => whnf
        rw [never hcan] at eb
        refine cw_false rfl (cw_skip ?_)
        refine cw_region rfl ?_
        exact ⟨t + 1, ⟨rfl, rfl, by show some (Value.int .i64 _) = some (Value.int .i64 _); rw [eb], slot_i64 _ _ (by omega) (by omega), trivial⟩, ⟨by omega, (x3.trans x35).trans x6⟩, by omega⟩
    · refine ops_q (v := .bool false) rfl rfl (fun k hk => say_eq_no h2' hk) ?_
      conv => whnf
      refine ⟨_, y5.rd (o := 1) rfl, ?_⟩
      by_cases h3' : w.st = 3
      · refine ops_g (v := .bool true) (b := false) rfl rfl rfl rfl (fun k hk => say_eq h3' hk) ?_
        conv => whnf
        refine ⟨_, y5.rd (wkC_get_ld hk), ?_⟩
        conv => whnf
        refine ⟨_, y5.rd (o := 2) rfl, ?_⟩
        conv => whnf
        by_cases hl : w.ld < w.sl
        · have hc1 : w.st = 2 ∨ (w.st = 3 ∧ w.ld < w.sl) := .inr ⟨h3', hl⟩
          refine cw_seq ?_
          refine cw_drawn (by kernel_rfl) 22 (fun _ => false) [0, 1, 2, 3, 4, 5, 6, 7, 8, 9, 10, 11, 12, 13, 14, 15, 16, 17, 18, 19, 20, 21] (by kernel_rfl) rfl ?_
          refine head_q (v := .bool true) rfl rfl rfl rfl (fun k hk => say true (decide_eq_true hl) hk) ?_
          conv => whnf
          refine ⟨w.key.map u8v, by rw [List.length_map, hk]; rfl, (y5.rdN 3 (w.key.map u8v) (by simp [wkC])), ?_⟩
          conv => whnf
          refine ⟨key.map u8v, by rw [List.length_map, hkey]; rfl, yk3.all, ?_⟩
          conv => whnf
          by_cases hkk : w.key = key
          · have hcan : canW key w := ⟨hkk, hc1⟩
            refine ⟨.bool true, fun wd => by rw [dig_eq _ _ _ _ hk hkey, decide_eq_true hkk], ?_⟩
            refine head_q rfl rfl rfl rfl (fun k hk => hk) ?_
            refine head_q rfl rfl rfl rfl (fun k hk => hk) ?_
            refine head_g (b := true) rfl rfl rfl rfl rfl rfl (fun k hk => hk) ?_
            by_cases hB0 : B.n = 0
            · refine head_g (v := .bool true) (b := true) rfl rfl rfl rfl rfl rfl (fun k hk => say_eq hB0 hk) ?_
              conv => whnf
              intro h6 x6
              conv => whnf
              have es := better hcan (.inl (hbn.1.1 hB0))
              rw [es] at eb
              refine cw_true rfl ?_
              refine cw_region rfl ?_
              conv => whnf
              refine ⟨_, (x6.blk y5).rd (o := 0) rfl, ?_⟩
              refine cw_region rfl ?_
              exact ⟨t + 1, ⟨rfl, rfl, by show some (Value.int .i64 _) = some (Value.int .i64 _); rw [eb], slot_i64 _ _ (by omega) (by omega), trivial⟩, ⟨by omega, (x3.trans x35).trans x6⟩, by omega⟩
            · refine head_g (v := .bool false) (b := true) rfl rfl rfl rfl rfl rfl (fun k hk => say_eq_no hB0 hk) ?_
              obtain ⟨j, hj, hBn, hjl⟩ := hbn.2 hB0
              have hkB := keysOk_get kk hj
              obtain ⟨g', c', hv', hr'⟩ := ((o2.more x3).more x35).get kk hj
              injection hv' with hv1' _ hv2'
              injection hv1' with hv1'
              injection hv1' with hv1'
              subst hv1'
              conv => whnf
              refine ⟨_, y5.rd (wkC_get_ld hk), ?_⟩
              conv => whnf
              refine ⟨_, y3.rd (o := 3) rfl, ?_⟩
              refine head_g (b := false) rfl rfl rfl rfl rfl rfl (fun k hk => hk) ?_
              refine head_g (v := .int .i64 (j : Int)) (b := false) rfl rfl rfl rfl rfl rfl (fun k hk => by show k (.int .i64 (IntKind.i64.wrap (B.n - 1))); rw [hBn, show (j : Int) + 1 - 1 = (j : Int) by omega, i64_in _ (by omega) (by omega)]; exact hk) ?_
              conv => whnf
              refine ⟨⟨by omega, by omega⟩, ?_⟩
              conv => whnf
              refine ⟨_, by have := hr' 35 _ (wkC_get_ld hkB); rwa [show j * 37 + 35 = 0 + ((j : Int)).toNat * 37 + 35 by omega] at this, ?_⟩
              conv => whnf
              intro h6 x6
              conv => whnf
              by_cases hless : w.ld < B.ld
              · have es := better hcan (.inr hless)
                rw [es] at eb
                refine cw_yes rfl hless ?_
                refine cw_region rfl ?_
                conv => whnf
                refine ⟨_, (x6.blk y5).rd (o := 0) rfl, ?_⟩
                refine cw_region rfl ?_
                exact ⟨t + 1, ⟨rfl, rfl, by show some (Value.int .i64 _) = some (Value.int .i64 _); rw [eb], slot_i64 _ _ (by omega) (by omega), trivial⟩, ⟨by omega, (x3.trans x35).trans x6⟩, by omega⟩
              · have es := worse (fun e => hB0 (hbn.1.2 e)) hless
                rw [es] at eb
                refine cw_no rfl hless (cw_skip ?_)
                refine cw_region rfl ?_
                exact ⟨t + 1, ⟨rfl, rfl, by show some (Value.int .i64 _) = some (Value.int .i64 _); rw [eb], slot_i64 _ _ (by omega) (by omega), trivial⟩, ⟨by omega, (x3.trans x35).trans x6⟩, by omega⟩
          · have hcan : ¬ canW key w := fun e => hkk e.1
            refine ⟨.bool false, fun wd => by rw [dig_eq _ _ _ _ hk hkey, decide_eq_false hkk], ?_⟩
            conv => whnf
            intro h6 x6
            conv => whnf
            rw [never hcan] at eb
            refine cw_false rfl (cw_skip ?_)
            refine cw_region rfl ?_
            exact ⟨t + 1, ⟨rfl, rfl, by show some (Value.int .i64 _) = some (Value.int .i64 _); rw [eb], slot_i64 _ _ (by omega) (by omega), trivial⟩, ⟨by omega, (x3.trans x35).trans x6⟩, by omega⟩
        · have hcan : ¬ canW key w := fun e => e.2.elim h2' (fun e => hl e.2)
          refine cw_seq ?_
          refine cw_drawn (by kernel_rfl) 22 (fun _ => false) [0, 1, 2, 3, 4, 5, 6, 7, 8, 9, 10, 11, 12, 13, 14, 15, 16, 17, 18, 19, 20, 21] (by kernel_rfl) rfl ?_
          refine head_q (v := .bool false) rfl rfl rfl rfl (fun k hk => say false (decide_eq_false hl) hk) ?_
          conv => whnf
          intro h6 x6
          conv => whnf
          rw [never hcan] at eb
          refine cw_false rfl (cw_skip ?_)
          refine cw_region rfl ?_
          exact ⟨t + 1, ⟨rfl, rfl, by show some (Value.int .i64 _) = some (Value.int .i64 _); rw [eb], slot_i64 _ _ (by omega) (by omega), trivial⟩, ⟨by omega, (x3.trans x35).trans x6⟩, by omega⟩
      · refine ops_g (v := .bool false) (b := false) rfl rfl rfl rfl (fun k hk => say_eq_no h3' hk) ?_
        conv => whnf
        have hcan : ¬ canW key w := fun e => e.2.elim h2' (fun e => h3' e.1)
        refine cw_seq ?_
        refine cw_drawn (by kernel_rfl) 22 (fun _ => false) [0, 1, 2, 3, 4, 5, 6, 7, 8, 9, 10, 11, 12, 13, 14, 15, 16, 17, 18, 19, 20, 21] (by kernel_rfl) rfl ?_
        refine head_q (v := .bool false) rfl rfl rfl rfl (fun k hk => hk) ?_
        conv => whnf
        intro h6 x6
        conv => whnf
        rw [never hcan] at eb
        refine cw_false rfl (cw_skip ?_)
        refine cw_region rfl ?_
        exact ⟨t + 1, ⟨rfl, rfl, by show some (Value.int .i64 _) = some (Value.int .i64 _); rw [eb], slot_i64 _ _ (by omega) (by omega), trivial⟩, ⟨by omega, (x3.trans x35).trans x6⟩, by omega⟩
  · refine cw_no rfl (by show ¬ (t : Int) < _; omega) (cw_exit ?_)
    have tn : t = ws.length := by omega
    subst tn
    rw [efin] at hB
    subst hB
    refine cw_seq (cw_region rfl ?_)
    exact cw_ret ⟨rfl, x02.trans x3⟩
theorem rspare_fn {h : Heap} {wv kv : Value} {wk sl id : Int} {ws : List Wk} {ks : List (List UInt8)} (rk : RK h kv ks) (h32 : all32 ks) (o : OW h wv ws) (kk : keysOk ws) (I : Inv wk sl id ws) :
    Fx Try.prog 49 #[.agg (refC wk sl id wv).toArray, kv] h fun u h' => u = .tuple #[.int .i64 (spareB ks ws).n, .bool (decide (0 < (spareB ks ws).n))] ∧ ExtH h h' := by
  refine fn_of 64 Try.func49 rfl (by kernel_rfl) rfl (by simp) ?_
  obtain ⟨va, vc, hve, hvm⟩ := o.fix
  subst hve
  have hmax : maxLen < 9223372036854775808 := by decide
  obtain ⟨ka, kc, hke, hkm⟩ := rk.fix
  subst hke
  refine cw_seq (cw_region rfl ?_)
  conv => whnf
  intro h1 n1
  have y1 : Blk h1 h.size (refC wk sl id (.slice va ws.length vc)) 53 := n1.blk
  have x1 := n1.ext
  have z1 := n1.size
  clear n1
  conv => whnf
  have o2 := o.more x1
  refine cw_seq (cw_region rfl ?_)
  refine cw_seq (cw_seq (cw_region rfl ?_))
  refine cw_block ?_
  refine cw_loop (S := Nat) (fun t => [(1, .slice ka ks.length kc), (2, .pointer (some ⟨h.size, 0, none⟩)), (6, .int .i64 (spareB ks (ws.take t)).n), (7, .int .i64 (t : Int))])
    (fun t h' => t ≤ ws.length ∧ ExtH h1 h') (fun t => ws.length - t) 0 ⟨rfl, rfl, rfl, rfl, trivial⟩ ⟨by omega, ExtH.refl _⟩ ?_
  rintro t h3 ⟨ht, x3⟩
  have y3 := x3.blk y1
  have eb : ∀ w, ws[t]? = some w → spareB ks (ws.take (t + 1)) = spareStep ks (spareB ks (ws.take t)) w := fun w hw => foldl_take_succ _ _ _ _ _ hw
  have efin : spareB ks (ws.take ws.length) = spareB ks ws := by rw [List.take_length]
  have hBm : spareB ks (ws.take t) = zeroW ∨ spareB ks (ws.take t) ∈ ws := (spare_best ks (ws.take t)).imp (fun e => e) (fun e => List.mem_of_mem_take e.1)
  generalize hB : spareB ks (ws.take t) = B at eb hBm
  have hbn := best_n I hBm
  refine cw_seq (cw_seq (cw_region rfl ?_))
  conv => whnf
  refine ⟨_, y3.rd (o := 3) rfl, ?_⟩
  conv => whnf
  by_cases hlt : t < ws.length
  · refine cw_yes rfl (by show (t : Int) < _; omega) (cw_skip ?_)
    have hw : ws[t]? = some ws[t] := List.getElem?_eq_getElem hlt
    generalize ws[t] = w at hw
    replace eb := eb w hw
    have hk := keysOk_get kk hw
    obtain ⟨g, c, hv, hr⟩ := (o2.more x3).get kk hw
    injection hv with hv1 _ hv2
    subst hv1 hv2
    refine cw_seq (cw_block (cw_seq (cw_region rfl ?_)))
    conv => whnf
    refine ⟨_, y3.rd (o := 3) rfl, ?_⟩
    conv => whnf
    refine ⟨⟨by omega, by omega⟩, ?_⟩
    conv => whnf
    refine ⟨wkC w, by rw [wkC_length hk]; rfl, by rwa [show t * 37 = 0 + ((t : Int)).toNat * 37 by omega] at hr, ?_⟩
    conv => whnf
    intro h4 n4
    conv => whnf
    refine store_wk (a := zeroW) n4.blk zeroW_key hk ?_
    intro h5 w5
    have z3 := x3.size; have z4 := n4.size; have z5 := w5.size
    have x35 : ExtH h3 h5 := ⟨by omega, fun b hb => by rw [w5.block b (by omega), n4.block b (by omega)]⟩
    have y5 := w5.new
    replace y3 := x35.blk y3
    clear n4 w5
    have better : freeW ks w → (B = zeroW ∨ B.id < w.id) → spareStep ks B w = w := fun h1 h2 => by unfold spareStep; rw [if_pos ⟨h1, h2⟩]
    have worse : B ≠ zeroW → ¬ B.id < w.id → spareStep ks B w = B := fun h1 h2 => by unfold spareStep; rw [if_neg (fun e => e.2.elim h1 h2)]
    have never : ¬ freeW ks w → spareStep ks B w = B := fun h1 => by unfold spareStep; rw [if_neg (fun e => h1 e.1)]
    have rk5 := ((rk.more x1).more x3).more x35
    refine cw_seq (cw_region rfl ?_)
    conv => whnf
    refine ⟨_, y5.rd (o := 1) rfl, ?_⟩
    conv => whnf
    refine cw_seq (cw_seq (cw_region rfl ?_))
    refine cw_block ?_
    refine cw_loop (S := Nat) (fun i => [(1, .slice ka ks.length kc), (2, .pointer (some ⟨h.size, 0, none⟩)), (6, .int .i64 B.n), (7, .int .i64 (t : Int)), (8, .pointer (some ⟨h3.size, 0, none⟩)), (9, .bool (decide (w.st = 2 ∧ w.key ∉ ks.take i))), (10, .int .i64 (i : Int))])
      (fun i h' => i ≤ ks.length ∧ ExtH h5 h') (fun i => ks.length - i) 0 ⟨rfl, rfl, rfl, rfl, rfl, by show some (Value.bool (w.st == 2)) = some (Value.bool (decide (w.st = 2 ∧ w.key ∉ ks.take 0))); simp [BEq.beq], rfl, trivial⟩ ⟨by omega, ExtH.refl _⟩ ?_
    rintro i h7 ⟨hi, x7⟩
    replace y5 := x7.blk y5
    replace y3 := x7.blk y3
    refine cw_seq (cw_seq (cw_region rfl ?_))
    conv => whnf
    by_cases hil : i < ks.length
    · refine cw_yes rfl (by show (i : Int) < _; omega) (cw_skip ?_)
      obtain ⟨b, o', rfl, hr'⟩ := (rk5.more x7).get h32 i hil
      have hd : ks[i]? = some ks[i] := List.getElem?_eq_getElem hil
      have hgd : ks.getD i [] = ks[i] := by rw [List.getD_eq_getElem?_getD, hd]; rfl
      rw [hgd] at hr'
      have hdk := h32 _ (List.getElem_mem hil)
      have htk : w.key ∉ ks.take (i + 1) ↔ w.key ∉ ks.take i ∧ ¬ ks[i] = w.key := by
        rw [List.take_add_one, hd]
        simp only [Option.toList_some, List.mem_append, List.mem_singleton, not_or]
        exact and_congr_right fun _ => not_congr eq_comm
      generalize ks[i] = d at hd hr' hdk htk
      refine cw_seq (cw_block ?_)
      refine cw_drawn (by kernel_rfl) 10 (fun _ => false) [0, 1, 2, 3, 4, 5, 6, 7, 8, 9] (by kernel_rfl) rfl ?_
      by_cases hc : w.st = 2 ∧ w.key ∉ ks.take i
      · refine head_q (v := .bool true) rfl rfl rfl rfl (fun k hk => say true (decide_eq_true hc) hk) ?_
        conv => whnf
        refine ⟨⟨by omega, by omega⟩, ?_⟩
        conv => whnf
        refine ⟨d.map u8v, by rw [List.length_map, hdk]; rfl, by rwa [show o' + i * 32 = o' + ((i : Int)).toNat * 32 by omega] at hr', ?_⟩
        conv => whnf
        refine ⟨w.key.map u8v, by rw [List.length_map, hk]; rfl, (y5.rdN 3 (w.key.map u8v) (by simp [wkC])), ?_⟩
        conv => whnf
        refine ⟨.bool (!decide (d = w.key)), fun wd => dig_ne _ _ _ _ hdk hk wd, ?_⟩
        conv => whnf
        intro h8 x8
        conv => whnf
        refine cw_region rfl ?_
        refine ⟨i + 1, ⟨rfl, rfl, rfl, rfl, rfl, ?_, slot_i64 _ _ (by omega) (by omega), trivial⟩, ⟨by omega, x7.trans x8⟩, by omega⟩
        show some (Value.bool (!decide (d = w.key))) = some (Value.bool (decide (w.st = 2 ∧ w.key ∉ ks.take (i + 1))))
        by_cases hdw : d = w.key
        · rw [decide_eq_true hdw, decide_eq_false (show ¬ (w.st = 2 ∧ w.key ∉ ks.take (i + 1)) from fun e => (htk.1 e.2).2 hdw)]
          rfl
        · rw [decide_eq_false hdw, decide_eq_true (show w.st = 2 ∧ w.key ∉ ks.take (i + 1) from ⟨hc.1, htk.2 ⟨hc.2, hdw⟩⟩)]
          rfl
      · refine head_q (v := .bool false) rfl rfl rfl rfl (fun k hk => say false (decide_eq_false hc) hk) ?_
        conv => whnf
        intro h8 x8
        conv => whnf
        refine cw_region rfl ?_
        refine ⟨i + 1, ⟨rfl, rfl, rfl, rfl, rfl, ?_, slot_i64 _ _ (by omega) (by omega), trivial⟩, ⟨by omega, x7.trans x8⟩, by omega⟩
        show some (Value.bool false) = some (Value.bool (decide (w.st = 2 ∧ w.key ∉ ks.take (i + 1))))
        rw [decide_eq_false (show ¬ (w.st = 2 ∧ w.key ∉ ks.take (i + 1)) from fun e => hc ⟨e.1, (htk.1 e.2).1⟩)]
    · refine cw_no rfl (by show ¬ (i : Int) < _; omega) (cw_exit ?_)
      have tn : i = ks.length := by omega
      subst tn
      rw [List.take_length]
      refine cw_seq ?_
      refine cw_drawn (by kernel_rfl) 16 (fun _ => false) [0, 1, 2, 3, 4, 5, 6, 7, 8, 9, 10, 11, 12, 13, 14, 15] (by kernel_rfl) rfl ?_
      by_cases hcan : freeW ks w
      · refine head_q (v := .bool true) rfl rfl rfl rfl (fun k hk => say true (decide_eq_true hcan) hk) ?_
        refine head_q rfl rfl rfl rfl (fun k hk => hk) ?_
        refine head_g (b := true) rfl rfl rfl rfl rfl rfl (fun k hk => hk) ?_
        by_cases hB0 : B.n = 0
        · refine head_g (v := .bool true) (b := true) rfl rfl rfl rfl rfl rfl (fun k hk => say_eq hB0 hk) ?_
          conv => whnf
          intro h6 x6
          conv => whnf
          have es := better hcan (.inl (hbn.1.1 hB0))
          rw [es] at eb
          refine cw_true rfl ?_
          refine cw_region rfl ?_
          conv => whnf
          refine ⟨_, (x6.blk y5).rd (o := 0) rfl, ?_⟩
          refine cw_region rfl ?_
          exact ⟨t + 1, ⟨rfl, rfl, by show some (Value.int .i64 _) = some (Value.int .i64 _); rw [eb], slot_i64 _ _ (by omega) (by omega), trivial⟩, ⟨by omega, ((x3.trans x35).trans x7).trans x6⟩, by omega⟩
        · refine head_g (v := .bool false) (b := true) rfl rfl rfl rfl rfl rfl (fun k hk => say_eq_no hB0 hk) ?_
          obtain ⟨j, hj, hBn, hjl⟩ := hbn.2 hB0
          have hkB := keysOk_get kk hj
          obtain ⟨g', c', hv', hr'⟩ := (((o2.more x3).more x35).more x7).get kk hj
          injection hv' with hv1' _ hv2'
          injection hv1' with hv1'
          injection hv1' with hv1'
          subst hv1'
          conv => whnf
          refine ⟨_, y5.rd (wkC_get_id hk), ?_⟩
          conv => whnf
          refine ⟨_, y3.rd (o := 3) rfl, ?_⟩
          refine head_g (b := false) rfl rfl rfl rfl rfl rfl (fun k hk => hk) ?_
          refine head_g (v := .int .i64 (j : Int)) (b := false) rfl rfl rfl rfl rfl rfl (fun k hk => by show k (.int .i64 (IntKind.i64.wrap (B.n - 1))); rw [hBn, show (j : Int) + 1 - 1 = (j : Int) by omega, i64_in _ (by omega) (by omega)]; exact hk) ?_
          conv => whnf
          refine ⟨⟨by omega, by omega⟩, ?_⟩
          conv => whnf
          refine ⟨_, by have := hr' 36 _ (wkC_get_id hkB); rwa [show j * 37 + 36 = 0 + ((j : Int)).toNat * 37 + 36 by omega] at this, ?_⟩
          conv => whnf
          intro h6 x6
          conv => whnf
          by_cases hless : B.id < w.id
          · have es := better hcan (.inr hless)
            rw [es] at eb
            refine cw_yes rfl hless ?_
            refine cw_region rfl ?_
            conv => whnf
            refine ⟨_, (x6.blk y5).rd (o := 0) rfl, ?_⟩
            refine cw_region rfl ?_
            exact ⟨t + 1, ⟨rfl, rfl, by show some (Value.int .i64 _) = some (Value.int .i64 _); rw [eb], slot_i64 _ _ (by omega) (by omega), trivial⟩, ⟨by omega, ((x3.trans x35).trans x7).trans x6⟩, by omega⟩
          · have es := worse (fun e => hB0 (hbn.1.2 e)) hless
            rw [es] at eb
            refine cw_no rfl hless (cw_skip ?_)
            refine cw_region rfl ?_
            exact ⟨t + 1, ⟨rfl, rfl, by show some (Value.int .i64 _) = some (Value.int .i64 _); rw [eb], slot_i64 _ _ (by omega) (by omega), trivial⟩, ⟨by omega, ((x3.trans x35).trans x7).trans x6⟩, by omega⟩
      · refine head_q (v := .bool false) rfl rfl rfl rfl (fun k hk => say false (decide_eq_false hcan) hk) ?_
        conv => whnf
        intro h6 x6
        conv => whnf
        rw [never hcan] at eb
        refine cw_false rfl (cw_skip ?_)
        refine cw_region rfl ?_
        exact ⟨t + 1, ⟨rfl, rfl, by show some (Value.int .i64 _) = some (Value.int .i64 _); rw [eb], slot_i64 _ _ (by omega) (by omega), trivial⟩, ⟨by omega, ((x3.trans x35).trans x7).trans x6⟩, by omega⟩
  · refine cw_no rfl (by show ¬ (t : Int) < _; omega) (cw_exit ?_)
    have tn : t = ws.length := by omega
    subst tn
    rw [efin] at hB
    subst hB
    refine cw_seq (cw_region rfl ?_)
    exact cw_ret ⟨rfl, x1.trans x3⟩
end Go.Proofs.Ytcmjgkjnnmfijaa
