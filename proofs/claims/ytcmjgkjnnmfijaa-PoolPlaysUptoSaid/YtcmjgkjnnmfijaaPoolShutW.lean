/-
  PoolShut: the walk. Printed by tools/genshut.py.
-/
import Derived.Test.YtcmjgkjnnmfijaaPoolShutL
namespace Go.Proofs.Ytcmjgkjnnmfijaa
open Go Vm
set_option maxRecDepth 100000
set_option linter.unusedVariables false
set_option maxHeartbeats 4000000
theorem store_told {h : Heap} {b : Nat} {n : Int} {s : Bool} {l : List Int} {w : Wk} {e : Int} {lv : Value} {K : Heap → Prop} (hb : Blk h b (toldC 0 false (.slice none 0 0) zeroW 0) 37) (hw : w.key.length = 32) (ho : OI h lv l) (H : ∀ h', Wrote h h' b (toldC n s lv w e) 37 → K h') :
    ∃ l t, Blk h b l t ∧ (0 + (toldC n s lv w e).toArray.size ≤ l.length ∧ (toldC n s lv w e).toArray.size = 41 ∧ ∀ x ∈ (toldC n s lv w e).toArray.toList, x.oneCell' = true) ∧ ∀ h', Wrote h h' b (splice l 0 (toldC n s lv w e).toArray.toList) t → K h' := by
  have hlen := told_length (n := n) (s := s) (lv := lv) (w := w) (e := e) hw
  refine ⟨_, _, hb, ⟨by show 0 + (toldC n s lv w e).length ≤ 41; omega, hlen, fun x hx => ?_⟩, fun h' w' => H h' ?_⟩
  · have hx' : x ∈ toldC n s lv w e := hx
    obtain ⟨la, lc, rfl, _⟩ := (OwnS.src ho).form
    simp only [toldC, List.mem_cons, List.mem_append, List.not_mem_nil, or_false] at hx'
    rcases hx' with rfl | rfl | rfl | hx' | rfl
    · rfl
    · rfl
    · rfl
    · exact wkC_one _ x hx'
    · rfl
  · refine w'.cast ?_
    unfold splice
    show [] ++ toldC n s lv w e ++ List.drop (0 + (toldC n s lv w e).length) _ = _
    rw [hlen]
    simp [toldC, wkC, zeroW]
theorem shut_fn {h : Heap} {ov mv : Value} {os ms : List (Opv × Value)} (wk sl id n : Int) (r : RO h ov os) (rm : RO h mv ms) :
    Fx Try.prog 3 #[.agg #[.int .i64 wk, .int .i64 sl, .int .i64 id], ov, mv, .int .i64 n] h fun u h' => u = .bool true ∧ ExtH h h' := by
  refine fn_of 128 Try.func3 rfl (by kernel_rfl) rfl (by simp) ?_
  obtain ⟨oa, oc, hoe, hom⟩ := r.fix
  subst hoe
  obtain ⟨ma, mc, hme, hmm⟩ := rm.fix
  subst hme
  have hmax : maxLen < 9223372036854775808 := by decide
  refine cw_seq (cw_region rfl ?_)
  conv => whnf
  intro ha na
  have ya : Blk ha h.size [.int .i64 wk, .int .i64 sl, .int .i64 id] 23 := na.blk
  have xa := na.ext
  have za := na.size
  clear na
  refine cw_seq (cw_region rfl ?_)
  conv => whnf
  refine ⟨[.int .i64 wk, .int .i64 sl, .int .i64 id], rfl, ya.all, ?_⟩
  conv => whnf
  by_cases hl : okLim wk sl id
  · refine ⟨_, rfl, _, lived_yes wk sl id hl (r.more xa), ?_⟩
    rintro _ h1 ⟨p, v, rfl, N1⟩
    have I := (Inv.nil hl).lived (ops1 os)
    have hlen := lived_length wk sl id [] (ops1 os)
    have hlen2 : (ops1 os).length ≤ 10000000 := by unfold ops1; rw [List.length_map]; exact r.small
    generalize livedS wk sl id [] (ops1 os) = ws at N1 I hlen
    simp only [List.length_nil] at hlen
    have hwk : 0 < wk := by have := I.lim.1; omega
    conv => whnf
    refine cw_seq (cw_seq (cw_region rfl ?_))
    conv => whnf
    refine ⟨.bool false, fun w => by kernel_rfl, ?_⟩
    refine cw_false rfl (cw_skip ?_)
    refine cw_seq (cw_region rfl ?_)
    conv => whnf
    refine ⟨_, rfl, _, look_fn n N1.at_ hwk, ?_⟩
    rintro _ h2 ⟨rfl, x2⟩
    have hlk := look_key N1.at_.keys n
    have N2 := N1.more x2
    conv => whnf
    intro h3 n3
    conv => whnf
    refine store_wk (a := zeroW) n3.blk zeroW_key hlk ?_
    intro h4 w4
    have z3 := n3.size
    have z4 := w4.size
    have x24 : ExtH h2 h4 := ⟨by omega, fun b hb => by rw [w4.block b (by omega), n3.block b hb]⟩
    have N4 := N2.more x24
    have y4 := w4.new
    have nvb : ¬ ob v h2.size := fun e => by have := OwnS.lt N2.at_.own e; omega
    have npb : p < h2.size := N2.at_.blk.lt
    clear n3 w4
    conv => whnf
    refine cw_seq (cw_seq (cw_region rfl ?_))
    by_cases he : (lookS ws n).2 = 0
    · obtain ⟨i, w, hn, hw, elk⟩ := look_ok he
      rw [elk] at y4 hlk
      simp only at y4 hlk
      have rst := y4.rd (o := 1) (v := .int .i64 w.st) rfl
      have hrng := I.st w (List.mem_of_getElem? hw)
      by_cases hs56 : w.st = 5 ∨ w.st = 6
      · have S : Shut ws i w.st := ⟨w, hw, hs56, .inl rfl⟩
        by_cases h5 : w.st = 5
        · refine ops_q rfl rfl (fun k hk => hk) ?_
          refine ops_q (v := .bool false) rfl rfl (fun k hk => say_ne_no (by rw [elk]) hk) ?_
          refine ops_q rfl rfl (fun k hk => hk) ?_
          refine ops_g (b := false) rfl rfl rfl rfl (fun k hk => hk) ?_
          refine ops_g (b := false) rfl rfl rfl rfl (fun k hk => ⟨_, rst, hk⟩) ?_
          refine ops_g (v := .bool false) (b := false) rfl rfl rfl rfl (fun k hk => say_ne_no h5 hk) ?_
          refine ops_g (b := false) rfl rfl rfl rfl (fun k hk => hk) ?_
          refine ops_skip (b := true) rfl rfl rfl ?_
          refine ops_skip (b := true) rfl rfl rfl ?_
          refine ops_skip (b := true) rfl rfl rfl ?_
          refine ops_g (b := false) rfl rfl rfl rfl (fun k hk => hk) ?_
          refine ops_q rfl rfl (fun k hk => hk) ?_
          refine cw_false rfl (cw_skip ?_)
          refine cw_seq (cw_seq (cw_region rfl ?_))
          refine cw_block ?_
          refine cw_loop (S := Nat) (fun t => [(2, .slice ma ms.length mc), (3, .int .i64 n), (9, .pointer (some ⟨p, 0, none⟩)), (10, .pointer (some ⟨h2.size, 0, none⟩)), (12, .int .i64 (t : Int))])
            (fun t h' => t ≤ ms.length ∧ ∃ v ws, PoolNew ha h' p v wk sl id ws ∧ Inv wk sl id ws ∧ Shut ws i w.st ∧ ws.length ≤ 10000000 + t ∧ Blk h' h2.size (wkC w) 31 ∧ ¬ ob v h2.size) (fun t => ms.length - t) 0 ⟨rfl, rfl, rfl, rfl, rfl, trivial⟩
            ⟨by omega, v, ws, N4, I, S, by omega, y4, nvb⟩ ?_
          have hkw := hlk
          clear N1 N2 N4 I S y4 nvb x2 x24 z3 z4 hlk he elk hw hlen hlen2 rst hrng
          rintro t h5 ⟨ht, v, ws, N5, I, S, hlen, y5, nvb⟩
          have rst := y5.rd (o := 1) (v := .int .i64 w.st) rfl
          have hsm := rm.small
          refine cw_seq (cw_seq (cw_region rfl ?_))
          conv => whnf
          by_cases hlt : t < ms.length
          · refine cw_yes rfl (by show (t : Int) < _; omega) (cw_skip ?_)
            have hx : ms[t]? = some ms[t] := List.getElem?_eq_getElem hlt
            generalize ms[t] = x at hx
            obtain ⟨b, o, rfl, hr⟩ := (rm.more (xa.trans N5.ext)).get t x hx
            have hxm := List.mem_of_getElem? hx
            have hr' : ∀ {h' : Heap}, ExtH h h' → rdN h' b (o + ((t : Int)).toNat * 5) (opC x.1 x.2) := fun e => by
              obtain ⟨b', o', hbo, hr'⟩ := (rm.more e).get t x hx
              injection hbo with hbo
              injection hbo with hb1 hb2
              subst hb1 hb2
              rwa [show o + t * 5 = o + ((t : Int)).toNat * 5 by omega] at hr'
            refine cw_seq (cw_block (cw_seq (cw_region rfl ?_)))
            conv => whnf
            refine ⟨⟨by omega, by omega⟩, ?_⟩
            conv => whnf
            refine ⟨opC x.1 x.2, rfl, by rwa [show o + t * 5 = o + ((t : Int)).toNat * 5 by omega] at hr, ?_⟩
            conv => whnf
            refine ⟨_, rfl, _, asks_fn x.1 N5.at_ I (by omega) ((rm.ks x hxm).more (xa.trans N5.ext)) (by have := rm.kss x hxm; omega), ?_⟩
            rintro _ h6 ⟨v', lv, rfl, A6, t6, o6, f6⟩
            have N6 := N5.turn A6 t6
            have hlen6 := (asks_length wk sl id ws x.1).1
            have I6 := I.asks x.1
            have S6 := S.asks (wk := wk) (sl := sl) (id := id) x.1
            have htold := fun hd => I.told S x.1 hd
            have y6 : Blk h6 h2.size (wkC w) 31 := t6.1.blk y5 (fun e => by
              rcases e with e | e
              · omega
              · exact nvb e)
            have nvb6 : ¬ ob v' h2.size := fun e => by
              rcases t6.2 _ e with e | e
              · exact nvb e
              · have := y5.lt; omega
            have hwk6 : (askS wk sl id ws x.1).2.w.key.length = 32 := askS_key N5.at_.keys x.1
            generalize askS wk sl id ws x.1 = W at N6 hlen6 I6 S6 htold hwk6 o6
            conv => whnf
            intro h7 n7
            conv => whnf
            refine store_told n7.blk hwk6 (o6.more n7.ext) ?_
            intro h8 w8
            have z7 := n7.size
            have z8 := w8.size
            have x68 : ExtH h6 h8 := ⟨by omega, fun b hb => by rw [w8.block b (by omega), n7.block b hb]⟩
            have N8 := N6.more x68
            have y8 := x68.blk y6
            have rtn := w8.new.rd (o := 0) (v := .int .i64 W.2.n) rfl
            clear n7 w8
            have rdo : rd h8 ⟨b, o + ((t : Int)).toNat * 5, none⟩ = some (.int .i64 x.1.d) := hr' (xa.trans N8.ext) 0 _ rfl
            have rst8 := x68.rd (y6.rd (o := 1) (v := .int .i64 w.st) rfl)
            refine cw_seq (cw_seq (cw_region rfl ?_))
            by_cases h8' : x.1.d = 8
            · have hno := htold (.inl h8')
              refine ops_q rfl rfl (fun k hk => hk) ?_
              refine ops_q rfl rfl (fun k hk => hk) ?_
              refine ops_q rfl rfl (fun k hk => ⟨⟨by omega, by omega⟩, hk⟩) ?_
              refine ops_q rfl rfl (fun k hk => hk) ?_
              refine ops_q rfl rfl (fun k hk => ⟨_, rdo, hk⟩) ?_
              refine ops_q (v := .bool true) rfl rfl (fun k hk => say_eq h8' hk) ?_
              refine ops_q rfl rfl (fun k hk => hk) ?_
              refine ops_skip (b := false) rfl rfl rfl ?_
              refine ops_skip (b := false) rfl rfl rfl ?_
              refine ops_skip (b := false) rfl rfl rfl ?_
              refine ops_skip (b := false) rfl rfl rfl ?_
              refine ops_skip (b := false) rfl rfl rfl ?_
              refine ops_skip (b := false) rfl rfl rfl ?_
              refine ops_q rfl rfl (fun k hk => hk) ?_
              refine ops_q rfl rfl (fun k hk => hk) ?_
              refine ops_skip (b := false) rfl rfl rfl ?_
              refine ops_skip (b := false) rfl rfl rfl ?_
              refine ops_skip (b := false) rfl rfl rfl ?_
              refine ops_skip (b := false) rfl rfl rfl ?_
              refine ops_skip (b := false) rfl rfl rfl ?_
              refine ops_skip (b := false) rfl rfl rfl ?_
              refine ops_q rfl rfl (fun k hk => hk) ?_
              refine ops_q rfl rfl (fun k hk => hk) ?_
              refine ops_g (b := true) rfl rfl rfl rfl (fun k hk => hk) ?_
              refine ops_g (b := true) rfl rfl rfl rfl (fun k hk => ⟨_, rtn, hk⟩) ?_
              refine ops_g (b := true) rfl rfl rfl rfl (fun k hk => hk) ?_
              refine ops_g (v := .bool false) (b := true) rfl rfl rfl rfl (fun k hk => say_eq_no (by rw [hn]; exact hno) hk) ?_
              refine ops_q rfl rfl (fun k hk => hk) ?_
              refine cw_false rfl (cw_skip ?_)
              refine cw_seq (cw_region rfl ?_)
              conv => whnf
              refine ⟨_, rfl, _, look_fn n N8.at_ hwk, ?_⟩
              obtain ⟨w', hw', h56', hs'⟩ := S6
              have ho' := I6.ok (List.mem_of_getElem? hw')
              have elk' : lookS W.1 n = (w', 0) := by rw [hn]; exact look_at hw' ho'.st
              have hk' := keysOk_get N8.at_.keys hw'
              rw [elk']
              rintro _ h9 ⟨rfl, x9⟩
              conv => whnf
              intro h10 n10
              conv => whnf
              refine store_wk (a := zeroW) n10.blk zeroW_key hk' ?_
              intro h11 w11
              have z10 := n10.size
              have z11 := w11.size
              have x911 : ExtH h9 h11 := ⟨by omega, fun b hb => by rw [w11.block b (by omega), n10.block b hb]⟩
              have N11 := (N8.more x9).more x911
              have y11 := x911.blk (x9.blk y8)
              have rst11 := y11.rd (o := 1) (v := .int .i64 w.st) rfl
              have rs' := w11.new.rd (o := 1) (v := .int .i64 w'.st) rfl
              have rl' := w11.new.rd (wkC_get_ld hk')
              have ri' := w11.new.rd (wkC_get_id hk')
              have hl0 := ho'.calm (by omega)
              have hi0 := ho'.still (by omega)
              have S11 : Shut W.1 i w.st := ⟨w', hw', h56', hs'⟩
              clear n10 w11
              conv => whnf
              refine cw_seq (cw_region rfl ?_)
              by_cases hsame : w'.st = w.st
              · by_cases h6' : w.st = 6
                · refine ops_q rfl rfl (fun k hk => hk) ?_
                  refine ops_q (v := .bool false) rfl rfl (fun k hk => say_ne_no rfl hk) ?_
                  refine ops_q rfl rfl (fun k hk => hk) ?_
                  refine ops_g (b := false) rfl rfl rfl rfl (fun k hk => hk) ?_
                  refine ops_g (b := false) rfl rfl rfl rfl (fun k hk => ⟨_, rs', hk⟩) ?_
                  refine ops_g (b := false) rfl rfl rfl rfl (fun k hk => hk) ?_
                  refine ops_g (b := false) rfl rfl rfl rfl (fun k hk => ⟨_, rst11, hk⟩) ?_
                  refine ops_g (v := .bool false) (b := false) rfl rfl rfl rfl (fun k hk => say_ne_no hsame hk) ?_
                  refine ops_g (b := false) rfl rfl rfl rfl (fun k hk => hk) ?_
                  refine ops_skip (b := true) rfl rfl rfl ?_
                  refine ops_skip (b := true) rfl rfl rfl ?_
                  refine ops_skip (b := true) rfl rfl rfl ?_
                  refine ops_g (b := false) rfl rfl rfl rfl (fun k hk => hk) ?_
                  refine ops_q rfl rfl (fun k hk => hk) ?_
                  refine ops_q rfl rfl (fun k hk => hk) ?_
                  refine ops_g (b := false) rfl rfl rfl rfl (fun k hk => hk) ?_
                  refine ops_g (b := false) rfl rfl rfl rfl (fun k hk => ⟨_, rl', hk⟩) ?_
                  refine ops_g (v := .bool false) (b := false) rfl rfl rfl rfl (fun k hk => say_ne_no hl0 hk) ?_
                  refine ops_q rfl rfl (fun k hk => hk) ?_
                  refine ops_q rfl rfl (fun k hk => hk) ?_
                  refine ops_g (b := false) rfl rfl rfl rfl (fun k hk => hk) ?_
                  refine ops_g (b := false) rfl rfl rfl rfl (fun k hk => ⟨_, ri', hk⟩) ?_
                  refine ops_g (v := .bool false) (b := false) rfl rfl rfl rfl (fun k hk => say_ne_no hi0 hk) ?_
                  refine ops_q rfl rfl (fun k hk => hk) ?_
                  refine ops_q rfl rfl (fun k hk => hk) ?_
                  refine ops_g (b := false) rfl rfl rfl rfl (fun k hk => hk) ?_
                  refine ops_g (b := false) rfl rfl rfl rfl (fun k hk => ⟨_, rst11, hk⟩) ?_
                  refine ops_g (v := .bool true) (b := false) rfl rfl rfl rfl (fun k hk => say_eq (by omega) hk) ?_
                  refine ops_g (b := false) rfl rfl rfl rfl (fun k hk => hk) ?_
                  refine ops_g (b := true) rfl rfl rfl rfl (fun k hk => hk) ?_
                  refine ops_g (b := true) rfl rfl rfl rfl (fun k hk => ⟨_, rs', hk⟩) ?_
                  refine ops_g (v := .bool false) (b := true) rfl rfl rfl rfl (fun k hk => say_ne_no (by omega) hk) ?_
                  refine ops_g (b := false) rfl rfl rfl rfl (fun k hk => hk) ?_
                  refine ops_q rfl rfl (fun k hk => hk) ?_
                  refine cw_false rfl (cw_skip ?_)
                  refine cw_region rfl ?_
                  exact ⟨t + 1, ⟨rfl, rfl, rfl, rfl, slot_i64 _ _ (by omega) (by omega), trivial⟩, ⟨by omega, _, _, N11, I6, S11, by omega, y11, nvb6⟩, by omega⟩
                · refine ops_q rfl rfl (fun k hk => hk) ?_
                  refine ops_q (v := .bool false) rfl rfl (fun k hk => say_ne_no rfl hk) ?_
                  refine ops_q rfl rfl (fun k hk => hk) ?_
                  refine ops_g (b := false) rfl rfl rfl rfl (fun k hk => hk) ?_
                  refine ops_g (b := false) rfl rfl rfl rfl (fun k hk => ⟨_, rs', hk⟩) ?_
                  refine ops_g (b := false) rfl rfl rfl rfl (fun k hk => hk) ?_
                  refine ops_g (b := false) rfl rfl rfl rfl (fun k hk => ⟨_, rst11, hk⟩) ?_
                  refine ops_g (v := .bool false) (b := false) rfl rfl rfl rfl (fun k hk => say_ne_no hsame hk) ?_
                  refine ops_g (b := false) rfl rfl rfl rfl (fun k hk => hk) ?_
                  refine ops_skip (b := true) rfl rfl rfl ?_
                  refine ops_skip (b := true) rfl rfl rfl ?_
                  refine ops_skip (b := true) rfl rfl rfl ?_
                  refine ops_g (b := false) rfl rfl rfl rfl (fun k hk => hk) ?_
                  refine ops_q rfl rfl (fun k hk => hk) ?_
                  refine ops_q rfl rfl (fun k hk => hk) ?_
                  refine ops_g (b := false) rfl rfl rfl rfl (fun k hk => hk) ?_
                  refine ops_g (b := false) rfl rfl rfl rfl (fun k hk => ⟨_, rl', hk⟩) ?_
                  refine ops_g (v := .bool false) (b := false) rfl rfl rfl rfl (fun k hk => say_ne_no hl0 hk) ?_
                  refine ops_q rfl rfl (fun k hk => hk) ?_
                  refine ops_q rfl rfl (fun k hk => hk) ?_
                  refine ops_g (b := false) rfl rfl rfl rfl (fun k hk => hk) ?_
                  refine ops_g (b := false) rfl rfl rfl rfl (fun k hk => ⟨_, ri', hk⟩) ?_
                  refine ops_g (v := .bool false) (b := false) rfl rfl rfl rfl (fun k hk => say_ne_no hi0 hk) ?_
                  refine ops_q rfl rfl (fun k hk => hk) ?_
                  refine ops_q rfl rfl (fun k hk => hk) ?_
                  refine ops_g (b := false) rfl rfl rfl rfl (fun k hk => hk) ?_
                  refine ops_g (b := false) rfl rfl rfl rfl (fun k hk => ⟨_, rst11, hk⟩) ?_
                  refine ops_g (v := .bool false) (b := false) rfl rfl rfl rfl (fun k hk => say_eq_no (by omega) hk) ?_
                  refine ops_g (b := false) rfl rfl rfl rfl (fun k hk => hk) ?_
                  refine ops_skip (b := true) rfl rfl rfl ?_
                  refine ops_skip (b := true) rfl rfl rfl ?_
                  refine ops_skip (b := true) rfl rfl rfl ?_
                  refine ops_g (b := false) rfl rfl rfl rfl (fun k hk => hk) ?_
                  refine ops_q rfl rfl (fun k hk => hk) ?_
                  refine cw_false rfl (cw_skip ?_)
                  refine cw_region rfl ?_
                  exact ⟨t + 1, ⟨rfl, rfl, rfl, rfl, slot_i64 _ _ (by omega) (by omega), trivial⟩, ⟨by omega, _, _, N11, I6, S11, by omega, y11, nvb6⟩, by omega⟩
              · refine ops_q rfl rfl (fun k hk => hk) ?_
                refine ops_q (v := .bool false) rfl rfl (fun k hk => say_ne_no rfl hk) ?_
                refine ops_q rfl rfl (fun k hk => hk) ?_
                refine ops_g (b := false) rfl rfl rfl rfl (fun k hk => hk) ?_
                refine ops_g (b := false) rfl rfl rfl rfl (fun k hk => ⟨_, rs', hk⟩) ?_
                refine ops_g (b := false) rfl rfl rfl rfl (fun k hk => hk) ?_
                refine ops_g (b := false) rfl rfl rfl rfl (fun k hk => ⟨_, rst11, hk⟩) ?_
                refine ops_g (v := .bool true) (b := false) rfl rfl rfl rfl (fun k hk => say_ne hsame hk) ?_
                refine ops_g (b := false) rfl rfl rfl rfl (fun k hk => hk) ?_
                refine ops_g (b := true) rfl rfl rfl rfl (fun k hk => hk) ?_
                refine ops_g (b := true) rfl rfl rfl rfl (fun k hk => ⟨_, rs', hk⟩) ?_
                refine ops_g (v := .bool false) (b := true) rfl rfl rfl rfl (fun k hk => say_ne_no (by omega) hk) ?_
                refine ops_g (b := false) rfl rfl rfl rfl (fun k hk => hk) ?_
                refine ops_q rfl rfl (fun k hk => hk) ?_
                refine ops_q rfl rfl (fun k hk => hk) ?_
                refine ops_g (b := false) rfl rfl rfl rfl (fun k hk => hk) ?_
                refine ops_g (b := false) rfl rfl rfl rfl (fun k hk => ⟨_, rl', hk⟩) ?_
                refine ops_g (v := .bool false) (b := false) rfl rfl rfl rfl (fun k hk => say_ne_no hl0 hk) ?_
                refine ops_q rfl rfl (fun k hk => hk) ?_
                refine ops_q rfl rfl (fun k hk => hk) ?_
                refine ops_g (b := false) rfl rfl rfl rfl (fun k hk => hk) ?_
                refine ops_g (b := false) rfl rfl rfl rfl (fun k hk => ⟨_, ri', hk⟩) ?_
                refine ops_g (v := .bool false) (b := false) rfl rfl rfl rfl (fun k hk => say_ne_no hi0 hk) ?_
                refine ops_q rfl rfl (fun k hk => hk) ?_
                refine ops_q rfl rfl (fun k hk => hk) ?_
                refine ops_g (b := false) rfl rfl rfl rfl (fun k hk => hk) ?_
                refine ops_g (b := false) rfl rfl rfl rfl (fun k hk => ⟨_, rst11, hk⟩) ?_
                refine ops_g (v := .bool false) (b := false) rfl rfl rfl rfl (fun k hk => say_eq_no (by omega) hk) ?_
                refine ops_g (b := false) rfl rfl rfl rfl (fun k hk => hk) ?_
                refine ops_skip (b := true) rfl rfl rfl ?_
                refine ops_skip (b := true) rfl rfl rfl ?_
                refine ops_skip (b := true) rfl rfl rfl ?_
                refine ops_g (b := false) rfl rfl rfl rfl (fun k hk => hk) ?_
                refine ops_q rfl rfl (fun k hk => hk) ?_
                refine cw_false rfl (cw_skip ?_)
                refine cw_region rfl ?_
                exact ⟨t + 1, ⟨rfl, rfl, rfl, rfl, slot_i64 _ _ (by omega) (by omega), trivial⟩, ⟨by omega, _, _, N11, I6, S11, by omega, y11, nvb6⟩, by omega⟩
            by_cases h9' : x.1.d = 9
            · have hno := htold (.inr (.inl h9'))
              refine ops_q rfl rfl (fun k hk => hk) ?_
              refine ops_q rfl rfl (fun k hk => hk) ?_
              refine ops_q rfl rfl (fun k hk => ⟨⟨by omega, by omega⟩, hk⟩) ?_
              refine ops_q rfl rfl (fun k hk => hk) ?_
              refine ops_q rfl rfl (fun k hk => ⟨_, rdo, hk⟩) ?_
              refine ops_q (v := .bool false) rfl rfl (fun k hk => say_eq_no h8' hk) ?_
              refine ops_q rfl rfl (fun k hk => hk) ?_
              refine ops_g (b := false) rfl rfl rfl rfl (fun k hk => hk) ?_
              refine ops_g (b := false) rfl rfl rfl rfl (fun k hk => hk) ?_
              refine ops_g (b := false) rfl rfl rfl rfl (fun k hk => ⟨⟨by omega, by omega⟩, hk⟩) ?_
              refine ops_g (b := false) rfl rfl rfl rfl (fun k hk => hk) ?_
              refine ops_g (b := false) rfl rfl rfl rfl (fun k hk => ⟨_, rdo, hk⟩) ?_
              refine ops_g (v := .bool true) (b := false) rfl rfl rfl rfl (fun k hk => say_eq h9' hk) ?_
              refine ops_q rfl rfl (fun k hk => hk) ?_
              refine ops_q rfl rfl (fun k hk => hk) ?_
              refine ops_skip (b := false) rfl rfl rfl ?_
              refine ops_skip (b := false) rfl rfl rfl ?_
              refine ops_skip (b := false) rfl rfl rfl ?_
              refine ops_skip (b := false) rfl rfl rfl ?_
              refine ops_skip (b := false) rfl rfl rfl ?_
              refine ops_skip (b := false) rfl rfl rfl ?_
              refine ops_q rfl rfl (fun k hk => hk) ?_
              refine ops_q rfl rfl (fun k hk => hk) ?_
              refine ops_g (b := true) rfl rfl rfl rfl (fun k hk => hk) ?_
              refine ops_g (b := true) rfl rfl rfl rfl (fun k hk => ⟨_, rtn, hk⟩) ?_
              refine ops_g (b := true) rfl rfl rfl rfl (fun k hk => hk) ?_
              refine ops_g (v := .bool false) (b := true) rfl rfl rfl rfl (fun k hk => say_eq_no (by rw [hn]; exact hno) hk) ?_
              refine ops_q rfl rfl (fun k hk => hk) ?_
              refine cw_false rfl (cw_skip ?_)
              refine cw_seq (cw_region rfl ?_)
              conv => whnf
              refine ⟨_, rfl, _, look_fn n N8.at_ hwk, ?_⟩
              obtain ⟨w', hw', h56', hs'⟩ := S6
              have ho' := I6.ok (List.mem_of_getElem? hw')
              have elk' : lookS W.1 n = (w', 0) := by rw [hn]; exact look_at hw' ho'.st
              have hk' := keysOk_get N8.at_.keys hw'
              rw [elk']
              rintro _ h9 ⟨rfl, x9⟩
              conv => whnf
              intro h10 n10
              conv => whnf
              refine store_wk (a := zeroW) n10.blk zeroW_key hk' ?_
              intro h11 w11
              have z10 := n10.size
              have z11 := w11.size
              have x911 : ExtH h9 h11 := ⟨by omega, fun b hb => by rw [w11.block b (by omega), n10.block b hb]⟩
              have N11 := (N8.more x9).more x911
              have y11 := x911.blk (x9.blk y8)
              have rst11 := y11.rd (o := 1) (v := .int .i64 w.st) rfl
              have rs' := w11.new.rd (o := 1) (v := .int .i64 w'.st) rfl
              have rl' := w11.new.rd (wkC_get_ld hk')
              have ri' := w11.new.rd (wkC_get_id hk')
              have hl0 := ho'.calm (by omega)
              have hi0 := ho'.still (by omega)
              have S11 : Shut W.1 i w.st := ⟨w', hw', h56', hs'⟩
              clear n10 w11
              conv => whnf
              refine cw_seq (cw_region rfl ?_)
              by_cases hsame : w'.st = w.st
              · by_cases h6' : w.st = 6
                · refine ops_q rfl rfl (fun k hk => hk) ?_
                  refine ops_q (v := .bool false) rfl rfl (fun k hk => say_ne_no rfl hk) ?_
                  refine ops_q rfl rfl (fun k hk => hk) ?_
                  refine ops_g (b := false) rfl rfl rfl rfl (fun k hk => hk) ?_
                  refine ops_g (b := false) rfl rfl rfl rfl (fun k hk => ⟨_, rs', hk⟩) ?_
                  refine ops_g (b := false) rfl rfl rfl rfl (fun k hk => hk) ?_
                  refine ops_g (b := false) rfl rfl rfl rfl (fun k hk => ⟨_, rst11, hk⟩) ?_
                  refine ops_g (v := .bool false) (b := false) rfl rfl rfl rfl (fun k hk => say_ne_no hsame hk) ?_
                  refine ops_g (b := false) rfl rfl rfl rfl (fun k hk => hk) ?_
                  refine ops_skip (b := true) rfl rfl rfl ?_
                  refine ops_skip (b := true) rfl rfl rfl ?_
                  refine ops_skip (b := true) rfl rfl rfl ?_
                  refine ops_g (b := false) rfl rfl rfl rfl (fun k hk => hk) ?_
                  refine ops_q rfl rfl (fun k hk => hk) ?_
                  refine ops_q rfl rfl (fun k hk => hk) ?_
                  refine ops_g (b := false) rfl rfl rfl rfl (fun k hk => hk) ?_
                  refine ops_g (b := false) rfl rfl rfl rfl (fun k hk => ⟨_, rl', hk⟩) ?_
                  refine ops_g (v := .bool false) (b := false) rfl rfl rfl rfl (fun k hk => say_ne_no hl0 hk) ?_
                  refine ops_q rfl rfl (fun k hk => hk) ?_
                  refine ops_q rfl rfl (fun k hk => hk) ?_
                  refine ops_g (b := false) rfl rfl rfl rfl (fun k hk => hk) ?_
                  refine ops_g (b := false) rfl rfl rfl rfl (fun k hk => ⟨_, ri', hk⟩) ?_
                  refine ops_g (v := .bool false) (b := false) rfl rfl rfl rfl (fun k hk => say_ne_no hi0 hk) ?_
                  refine ops_q rfl rfl (fun k hk => hk) ?_
                  refine ops_q rfl rfl (fun k hk => hk) ?_
                  refine ops_g (b := false) rfl rfl rfl rfl (fun k hk => hk) ?_
                  refine ops_g (b := false) rfl rfl rfl rfl (fun k hk => ⟨_, rst11, hk⟩) ?_
                  refine ops_g (v := .bool true) (b := false) rfl rfl rfl rfl (fun k hk => say_eq (by omega) hk) ?_
                  refine ops_g (b := false) rfl rfl rfl rfl (fun k hk => hk) ?_
                  refine ops_g (b := true) rfl rfl rfl rfl (fun k hk => hk) ?_
                  refine ops_g (b := true) rfl rfl rfl rfl (fun k hk => ⟨_, rs', hk⟩) ?_
                  refine ops_g (v := .bool false) (b := true) rfl rfl rfl rfl (fun k hk => say_ne_no (by omega) hk) ?_
                  refine ops_g (b := false) rfl rfl rfl rfl (fun k hk => hk) ?_
                  refine ops_q rfl rfl (fun k hk => hk) ?_
                  refine cw_false rfl (cw_skip ?_)
                  refine cw_region rfl ?_
                  exact ⟨t + 1, ⟨rfl, rfl, rfl, rfl, slot_i64 _ _ (by omega) (by omega), trivial⟩, ⟨by omega, _, _, N11, I6, S11, by omega, y11, nvb6⟩, by omega⟩
                · refine ops_q rfl rfl (fun k hk => hk) ?_
                  refine ops_q (v := .bool false) rfl rfl (fun k hk => say_ne_no rfl hk) ?_
                  refine ops_q rfl rfl (fun k hk => hk) ?_
                  refine ops_g (b := false) rfl rfl rfl rfl (fun k hk => hk) ?_
                  refine ops_g (b := false) rfl rfl rfl rfl (fun k hk => ⟨_, rs', hk⟩) ?_
                  refine ops_g (b := false) rfl rfl rfl rfl (fun k hk => hk) ?_
                  refine ops_g (b := false) rfl rfl rfl rfl (fun k hk => ⟨_, rst11, hk⟩) ?_
                  refine ops_g (v := .bool false) (b := false) rfl rfl rfl rfl (fun k hk => say_ne_no hsame hk) ?_
                  refine ops_g (b := false) rfl rfl rfl rfl (fun k hk => hk) ?_
                  refine ops_skip (b := true) rfl rfl rfl ?_
                  refine ops_skip (b := true) rfl rfl rfl ?_
                  refine ops_skip (b := true) rfl rfl rfl ?_
                  refine ops_g (b := false) rfl rfl rfl rfl (fun k hk => hk) ?_
                  refine ops_q rfl rfl (fun k hk => hk) ?_
                  refine ops_q rfl rfl (fun k hk => hk) ?_
                  refine ops_g (b := false) rfl rfl rfl rfl (fun k hk => hk) ?_
                  refine ops_g (b := false) rfl rfl rfl rfl (fun k hk => ⟨_, rl', hk⟩) ?_
                  refine ops_g (v := .bool false) (b := false) rfl rfl rfl rfl (fun k hk => say_ne_no hl0 hk) ?_
                  refine ops_q rfl rfl (fun k hk => hk) ?_
                  refine ops_q rfl rfl (fun k hk => hk) ?_
                  refine ops_g (b := false) rfl rfl rfl rfl (fun k hk => hk) ?_
                  refine ops_g (b := false) rfl rfl rfl rfl (fun k hk => ⟨_, ri', hk⟩) ?_
                  refine ops_g (v := .bool false) (b := false) rfl rfl rfl rfl (fun k hk => say_ne_no hi0 hk) ?_
                  refine ops_q rfl rfl (fun k hk => hk) ?_
                  refine ops_q rfl rfl (fun k hk => hk) ?_
                  refine ops_g (b := false) rfl rfl rfl rfl (fun k hk => hk) ?_
                  refine ops_g (b := false) rfl rfl rfl rfl (fun k hk => ⟨_, rst11, hk⟩) ?_
                  refine ops_g (v := .bool false) (b := false) rfl rfl rfl rfl (fun k hk => say_eq_no (by omega) hk) ?_
                  refine ops_g (b := false) rfl rfl rfl rfl (fun k hk => hk) ?_
                  refine ops_skip (b := true) rfl rfl rfl ?_
                  refine ops_skip (b := true) rfl rfl rfl ?_
                  refine ops_skip (b := true) rfl rfl rfl ?_
                  refine ops_g (b := false) rfl rfl rfl rfl (fun k hk => hk) ?_
                  refine ops_q rfl rfl (fun k hk => hk) ?_
                  refine cw_false rfl (cw_skip ?_)
                  refine cw_region rfl ?_
                  exact ⟨t + 1, ⟨rfl, rfl, rfl, rfl, slot_i64 _ _ (by omega) (by omega), trivial⟩, ⟨by omega, _, _, N11, I6, S11, by omega, y11, nvb6⟩, by omega⟩
              · refine ops_q rfl rfl (fun k hk => hk) ?_
                refine ops_q (v := .bool false) rfl rfl (fun k hk => say_ne_no rfl hk) ?_
                refine ops_q rfl rfl (fun k hk => hk) ?_
                refine ops_g (b := false) rfl rfl rfl rfl (fun k hk => hk) ?_
                refine ops_g (b := false) rfl rfl rfl rfl (fun k hk => ⟨_, rs', hk⟩) ?_
                refine ops_g (b := false) rfl rfl rfl rfl (fun k hk => hk) ?_
                refine ops_g (b := false) rfl rfl rfl rfl (fun k hk => ⟨_, rst11, hk⟩) ?_
                refine ops_g (v := .bool true) (b := false) rfl rfl rfl rfl (fun k hk => say_ne hsame hk) ?_
                refine ops_g (b := false) rfl rfl rfl rfl (fun k hk => hk) ?_
                refine ops_g (b := true) rfl rfl rfl rfl (fun k hk => hk) ?_
                refine ops_g (b := true) rfl rfl rfl rfl (fun k hk => ⟨_, rs', hk⟩) ?_
                refine ops_g (v := .bool false) (b := true) rfl rfl rfl rfl (fun k hk => say_ne_no (by omega) hk) ?_
                refine ops_g (b := false) rfl rfl rfl rfl (fun k hk => hk) ?_
                refine ops_q rfl rfl (fun k hk => hk) ?_
                refine ops_q rfl rfl (fun k hk => hk) ?_
                refine ops_g (b := false) rfl rfl rfl rfl (fun k hk => hk) ?_
                refine ops_g (b := false) rfl rfl rfl rfl (fun k hk => ⟨_, rl', hk⟩) ?_
                refine ops_g (v := .bool false) (b := false) rfl rfl rfl rfl (fun k hk => say_ne_no hl0 hk) ?_
                refine ops_q rfl rfl (fun k hk => hk) ?_
                refine ops_q rfl rfl (fun k hk => hk) ?_
                refine ops_g (b := false) rfl rfl rfl rfl (fun k hk => hk) ?_
                refine ops_g (b := false) rfl rfl rfl rfl (fun k hk => ⟨_, ri', hk⟩) ?_
                refine ops_g (v := .bool false) (b := false) rfl rfl rfl rfl (fun k hk => say_ne_no hi0 hk) ?_
                refine ops_q rfl rfl (fun k hk => hk) ?_
                refine ops_q rfl rfl (fun k hk => hk) ?_
                refine ops_g (b := false) rfl rfl rfl rfl (fun k hk => hk) ?_
                refine ops_g (b := false) rfl rfl rfl rfl (fun k hk => ⟨_, rst11, hk⟩) ?_
                refine ops_g (v := .bool false) (b := false) rfl rfl rfl rfl (fun k hk => say_eq_no (by omega) hk) ?_
                refine ops_g (b := false) rfl rfl rfl rfl (fun k hk => hk) ?_
                refine ops_skip (b := true) rfl rfl rfl ?_
                refine ops_skip (b := true) rfl rfl rfl ?_
                refine ops_skip (b := true) rfl rfl rfl ?_
                refine ops_g (b := false) rfl rfl rfl rfl (fun k hk => hk) ?_
                refine ops_q rfl rfl (fun k hk => hk) ?_
                refine cw_false rfl (cw_skip ?_)
                refine cw_region rfl ?_
                exact ⟨t + 1, ⟨rfl, rfl, rfl, rfl, slot_i64 _ _ (by omega) (by omega), trivial⟩, ⟨by omega, _, _, N11, I6, S11, by omega, y11, nvb6⟩, by omega⟩
            by_cases h0' : x.1.d = 0
            · have hno := htold (.inr (.inr h0'))
              refine ops_q rfl rfl (fun k hk => hk) ?_
              refine ops_q rfl rfl (fun k hk => hk) ?_
              refine ops_q rfl rfl (fun k hk => ⟨⟨by omega, by omega⟩, hk⟩) ?_
              refine ops_q rfl rfl (fun k hk => hk) ?_
              refine ops_q rfl rfl (fun k hk => ⟨_, rdo, hk⟩) ?_
              refine ops_q (v := .bool false) rfl rfl (fun k hk => say_eq_no h8' hk) ?_
              refine ops_q rfl rfl (fun k hk => hk) ?_
              refine ops_g (b := false) rfl rfl rfl rfl (fun k hk => hk) ?_
              refine ops_g (b := false) rfl rfl rfl rfl (fun k hk => hk) ?_
              refine ops_g (b := false) rfl rfl rfl rfl (fun k hk => ⟨⟨by omega, by omega⟩, hk⟩) ?_
              refine ops_g (b := false) rfl rfl rfl rfl (fun k hk => hk) ?_
              refine ops_g (b := false) rfl rfl rfl rfl (fun k hk => ⟨_, rdo, hk⟩) ?_
              refine ops_g (v := .bool false) (b := false) rfl rfl rfl rfl (fun k hk => say_eq_no h9' hk) ?_
              refine ops_q rfl rfl (fun k hk => hk) ?_
              refine ops_q rfl rfl (fun k hk => hk) ?_
              refine ops_g (b := false) rfl rfl rfl rfl (fun k hk => hk) ?_
              refine ops_g (b := false) rfl rfl rfl rfl (fun k hk => hk) ?_
              refine ops_g (b := false) rfl rfl rfl rfl (fun k hk => ⟨⟨by omega, by omega⟩, hk⟩) ?_
              refine ops_g (b := false) rfl rfl rfl rfl (fun k hk => hk) ?_
              refine ops_g (b := false) rfl rfl rfl rfl (fun k hk => ⟨_, rdo, hk⟩) ?_
              refine ops_g (v := .bool true) (b := false) rfl rfl rfl rfl (fun k hk => say_eq h0' hk) ?_
              refine ops_q rfl rfl (fun k hk => hk) ?_
              refine ops_q rfl rfl (fun k hk => hk) ?_
              refine ops_g (b := true) rfl rfl rfl rfl (fun k hk => hk) ?_
              refine ops_g (b := true) rfl rfl rfl rfl (fun k hk => ⟨_, rtn, hk⟩) ?_
              refine ops_g (b := true) rfl rfl rfl rfl (fun k hk => hk) ?_
              refine ops_g (v := .bool false) (b := true) rfl rfl rfl rfl (fun k hk => say_eq_no (by rw [hn]; exact hno) hk) ?_
              refine ops_q rfl rfl (fun k hk => hk) ?_
              refine cw_false rfl (cw_skip ?_)
              refine cw_seq (cw_region rfl ?_)
              conv => whnf
              refine ⟨_, rfl, _, look_fn n N8.at_ hwk, ?_⟩
              obtain ⟨w', hw', h56', hs'⟩ := S6
              have ho' := I6.ok (List.mem_of_getElem? hw')
              have elk' : lookS W.1 n = (w', 0) := by rw [hn]; exact look_at hw' ho'.st
              have hk' := keysOk_get N8.at_.keys hw'
              rw [elk']
              rintro _ h9 ⟨rfl, x9⟩
              conv => whnf
              intro h10 n10
              conv => whnf
              refine store_wk (a := zeroW) n10.blk zeroW_key hk' ?_
              intro h11 w11
              have z10 := n10.size
              have z11 := w11.size
              have x911 : ExtH h9 h11 := ⟨by omega, fun b hb => by rw [w11.block b (by omega), n10.block b hb]⟩
              have N11 := (N8.more x9).more x911
              have y11 := x911.blk (x9.blk y8)
              have rst11 := y11.rd (o := 1) (v := .int .i64 w.st) rfl
              have rs' := w11.new.rd (o := 1) (v := .int .i64 w'.st) rfl
              have rl' := w11.new.rd (wkC_get_ld hk')
              have ri' := w11.new.rd (wkC_get_id hk')
              have hl0 := ho'.calm (by omega)
              have hi0 := ho'.still (by omega)
              have S11 : Shut W.1 i w.st := ⟨w', hw', h56', hs'⟩
              clear n10 w11
              conv => whnf
              refine cw_seq (cw_region rfl ?_)
              by_cases hsame : w'.st = w.st
              · by_cases h6' : w.st = 6
                · refine ops_q rfl rfl (fun k hk => hk) ?_
                  refine ops_q (v := .bool false) rfl rfl (fun k hk => say_ne_no rfl hk) ?_
                  refine ops_q rfl rfl (fun k hk => hk) ?_
                  refine ops_g (b := false) rfl rfl rfl rfl (fun k hk => hk) ?_
                  refine ops_g (b := false) rfl rfl rfl rfl (fun k hk => ⟨_, rs', hk⟩) ?_
                  refine ops_g (b := false) rfl rfl rfl rfl (fun k hk => hk) ?_
                  refine ops_g (b := false) rfl rfl rfl rfl (fun k hk => ⟨_, rst11, hk⟩) ?_
                  refine ops_g (v := .bool false) (b := false) rfl rfl rfl rfl (fun k hk => say_ne_no hsame hk) ?_
                  refine ops_g (b := false) rfl rfl rfl rfl (fun k hk => hk) ?_
                  refine ops_skip (b := true) rfl rfl rfl ?_
                  refine ops_skip (b := true) rfl rfl rfl ?_
                  refine ops_skip (b := true) rfl rfl rfl ?_
                  refine ops_g (b := false) rfl rfl rfl rfl (fun k hk => hk) ?_
                  refine ops_q rfl rfl (fun k hk => hk) ?_
                  refine ops_q rfl rfl (fun k hk => hk) ?_
                  refine ops_g (b := false) rfl rfl rfl rfl (fun k hk => hk) ?_
                  refine ops_g (b := false) rfl rfl rfl rfl (fun k hk => ⟨_, rl', hk⟩) ?_
                  refine ops_g (v := .bool false) (b := false) rfl rfl rfl rfl (fun k hk => say_ne_no hl0 hk) ?_
                  refine ops_q rfl rfl (fun k hk => hk) ?_
                  refine ops_q rfl rfl (fun k hk => hk) ?_
                  refine ops_g (b := false) rfl rfl rfl rfl (fun k hk => hk) ?_
                  refine ops_g (b := false) rfl rfl rfl rfl (fun k hk => ⟨_, ri', hk⟩) ?_
                  refine ops_g (v := .bool false) (b := false) rfl rfl rfl rfl (fun k hk => say_ne_no hi0 hk) ?_
                  refine ops_q rfl rfl (fun k hk => hk) ?_
                  refine ops_q rfl rfl (fun k hk => hk) ?_
                  refine ops_g (b := false) rfl rfl rfl rfl (fun k hk => hk) ?_
                  refine ops_g (b := false) rfl rfl rfl rfl (fun k hk => ⟨_, rst11, hk⟩) ?_
                  refine ops_g (v := .bool true) (b := false) rfl rfl rfl rfl (fun k hk => say_eq (by omega) hk) ?_
                  refine ops_g (b := false) rfl rfl rfl rfl (fun k hk => hk) ?_
                  refine ops_g (b := true) rfl rfl rfl rfl (fun k hk => hk) ?_
                  refine ops_g (b := true) rfl rfl rfl rfl (fun k hk => ⟨_, rs', hk⟩) ?_
                  refine ops_g (v := .bool false) (b := true) rfl rfl rfl rfl (fun k hk => say_ne_no (by omega) hk) ?_
                  refine ops_g (b := false) rfl rfl rfl rfl (fun k hk => hk) ?_
                  refine ops_q rfl rfl (fun k hk => hk) ?_
                  refine cw_false rfl (cw_skip ?_)
                  refine cw_region rfl ?_
                  exact ⟨t + 1, ⟨rfl, rfl, rfl, rfl, slot_i64 _ _ (by omega) (by omega), trivial⟩, ⟨by omega, _, _, N11, I6, S11, by omega, y11, nvb6⟩, by omega⟩
                · refine ops_q rfl rfl (fun k hk => hk) ?_
                  refine ops_q (v := .bool false) rfl rfl (fun k hk => say_ne_no rfl hk) ?_
                  refine ops_q rfl rfl (fun k hk => hk) ?_
                  refine ops_g (b := false) rfl rfl rfl rfl (fun k hk => hk) ?_
                  refine ops_g (b := false) rfl rfl rfl rfl (fun k hk => ⟨_, rs', hk⟩) ?_
                  refine ops_g (b := false) rfl rfl rfl rfl (fun k hk => hk) ?_
                  refine ops_g (b := false) rfl rfl rfl rfl (fun k hk => ⟨_, rst11, hk⟩) ?_
                  refine ops_g (v := .bool false) (b := false) rfl rfl rfl rfl (fun k hk => say_ne_no hsame hk) ?_
                  refine ops_g (b := false) rfl rfl rfl rfl (fun k hk => hk) ?_
                  refine ops_skip (b := true) rfl rfl rfl ?_
                  refine ops_skip (b := true) rfl rfl rfl ?_
                  refine ops_skip (b := true) rfl rfl rfl ?_
                  refine ops_g (b := false) rfl rfl rfl rfl (fun k hk => hk) ?_
                  refine ops_q rfl rfl (fun k hk => hk) ?_
                  refine ops_q rfl rfl (fun k hk => hk) ?_
                  refine ops_g (b := false) rfl rfl rfl rfl (fun k hk => hk) ?_
                  refine ops_g (b := false) rfl rfl rfl rfl (fun k hk => ⟨_, rl', hk⟩) ?_
                  refine ops_g (v := .bool false) (b := false) rfl rfl rfl rfl (fun k hk => say_ne_no hl0 hk) ?_
                  refine ops_q rfl rfl (fun k hk => hk) ?_
                  refine ops_q rfl rfl (fun k hk => hk) ?_
                  refine ops_g (b := false) rfl rfl rfl rfl (fun k hk => hk) ?_
                  refine ops_g (b := false) rfl rfl rfl rfl (fun k hk => ⟨_, ri', hk⟩) ?_
                  refine ops_g (v := .bool false) (b := false) rfl rfl rfl rfl (fun k hk => say_ne_no hi0 hk) ?_
                  refine ops_q rfl rfl (fun k hk => hk) ?_
                  refine ops_q rfl rfl (fun k hk => hk) ?_
                  refine ops_g (b := false) rfl rfl rfl rfl (fun k hk => hk) ?_
                  refine ops_g (b := false) rfl rfl rfl rfl (fun k hk => ⟨_, rst11, hk⟩) ?_
                  refine ops_g (v := .bool false) (b := false) rfl rfl rfl rfl (fun k hk => say_eq_no (by omega) hk) ?_
                  refine ops_g (b := false) rfl rfl rfl rfl (fun k hk => hk) ?_
                  refine ops_skip (b := true) rfl rfl rfl ?_
                  refine ops_skip (b := true) rfl rfl rfl ?_
                  refine ops_skip (b := true) rfl rfl rfl ?_
                  refine ops_g (b := false) rfl rfl rfl rfl (fun k hk => hk) ?_
                  refine ops_q rfl rfl (fun k hk => hk) ?_
                  refine cw_false rfl (cw_skip ?_)
                  refine cw_region rfl ?_
                  exact ⟨t + 1, ⟨rfl, rfl, rfl, rfl, slot_i64 _ _ (by omega) (by omega), trivial⟩, ⟨by omega, _, _, N11, I6, S11, by omega, y11, nvb6⟩, by omega⟩
              · refine ops_q rfl rfl (fun k hk => hk) ?_
                refine ops_q (v := .bool false) rfl rfl (fun k hk => say_ne_no rfl hk) ?_
                refine ops_q rfl rfl (fun k hk => hk) ?_
                refine ops_g (b := false) rfl rfl rfl rfl (fun k hk => hk) ?_
                refine ops_g (b := false) rfl rfl rfl rfl (fun k hk => ⟨_, rs', hk⟩) ?_
                refine ops_g (b := false) rfl rfl rfl rfl (fun k hk => hk) ?_
                refine ops_g (b := false) rfl rfl rfl rfl (fun k hk => ⟨_, rst11, hk⟩) ?_
                refine ops_g (v := .bool true) (b := false) rfl rfl rfl rfl (fun k hk => say_ne hsame hk) ?_
                refine ops_g (b := false) rfl rfl rfl rfl (fun k hk => hk) ?_
                refine ops_g (b := true) rfl rfl rfl rfl (fun k hk => hk) ?_
                refine ops_g (b := true) rfl rfl rfl rfl (fun k hk => ⟨_, rs', hk⟩) ?_
                refine ops_g (v := .bool false) (b := true) rfl rfl rfl rfl (fun k hk => say_ne_no (by omega) hk) ?_
                refine ops_g (b := false) rfl rfl rfl rfl (fun k hk => hk) ?_
                refine ops_q rfl rfl (fun k hk => hk) ?_
                refine ops_q rfl rfl (fun k hk => hk) ?_
                refine ops_g (b := false) rfl rfl rfl rfl (fun k hk => hk) ?_
                refine ops_g (b := false) rfl rfl rfl rfl (fun k hk => ⟨_, rl', hk⟩) ?_
                refine ops_g (v := .bool false) (b := false) rfl rfl rfl rfl (fun k hk => say_ne_no hl0 hk) ?_
                refine ops_q rfl rfl (fun k hk => hk) ?_
                refine ops_q rfl rfl (fun k hk => hk) ?_
                refine ops_g (b := false) rfl rfl rfl rfl (fun k hk => hk) ?_
                refine ops_g (b := false) rfl rfl rfl rfl (fun k hk => ⟨_, ri', hk⟩) ?_
                refine ops_g (v := .bool false) (b := false) rfl rfl rfl rfl (fun k hk => say_ne_no hi0 hk) ?_
                refine ops_q rfl rfl (fun k hk => hk) ?_
                refine ops_q rfl rfl (fun k hk => hk) ?_
                refine ops_g (b := false) rfl rfl rfl rfl (fun k hk => hk) ?_
                refine ops_g (b := false) rfl rfl rfl rfl (fun k hk => ⟨_, rst11, hk⟩) ?_
                refine ops_g (v := .bool false) (b := false) rfl rfl rfl rfl (fun k hk => say_eq_no (by omega) hk) ?_
                refine ops_g (b := false) rfl rfl rfl rfl (fun k hk => hk) ?_
                refine ops_skip (b := true) rfl rfl rfl ?_
                refine ops_skip (b := true) rfl rfl rfl ?_
                refine ops_skip (b := true) rfl rfl rfl ?_
                refine ops_g (b := false) rfl rfl rfl rfl (fun k hk => hk) ?_
                refine ops_q rfl rfl (fun k hk => hk) ?_
                refine cw_false rfl (cw_skip ?_)
                refine cw_region rfl ?_
                exact ⟨t + 1, ⟨rfl, rfl, rfl, rfl, slot_i64 _ _ (by omega) (by omega), trivial⟩, ⟨by omega, _, _, N11, I6, S11, by omega, y11, nvb6⟩, by omega⟩
            refine ops_q rfl rfl (fun k hk => hk) ?_
            refine ops_q rfl rfl (fun k hk => hk) ?_
            refine ops_q rfl rfl (fun k hk => ⟨⟨by omega, by omega⟩, hk⟩) ?_
            refine ops_q rfl rfl (fun k hk => hk) ?_
            refine ops_q rfl rfl (fun k hk => ⟨_, rdo, hk⟩) ?_
            refine ops_q (v := .bool false) rfl rfl (fun k hk => say_eq_no h8' hk) ?_
            refine ops_q rfl rfl (fun k hk => hk) ?_
            refine ops_g (b := false) rfl rfl rfl rfl (fun k hk => hk) ?_
            refine ops_g (b := false) rfl rfl rfl rfl (fun k hk => hk) ?_
            refine ops_g (b := false) rfl rfl rfl rfl (fun k hk => ⟨⟨by omega, by omega⟩, hk⟩) ?_
            refine ops_g (b := false) rfl rfl rfl rfl (fun k hk => hk) ?_
            refine ops_g (b := false) rfl rfl rfl rfl (fun k hk => ⟨_, rdo, hk⟩) ?_
            refine ops_g (v := .bool false) (b := false) rfl rfl rfl rfl (fun k hk => say_eq_no h9' hk) ?_
            refine ops_q rfl rfl (fun k hk => hk) ?_
            refine ops_q rfl rfl (fun k hk => hk) ?_
            refine ops_g (b := false) rfl rfl rfl rfl (fun k hk => hk) ?_
            refine ops_g (b := false) rfl rfl rfl rfl (fun k hk => hk) ?_
            refine ops_g (b := false) rfl rfl rfl rfl (fun k hk => ⟨⟨by omega, by omega⟩, hk⟩) ?_
            refine ops_g (b := false) rfl rfl rfl rfl (fun k hk => hk) ?_
            refine ops_g (b := false) rfl rfl rfl rfl (fun k hk => ⟨_, rdo, hk⟩) ?_
            refine ops_g (v := .bool false) (b := false) rfl rfl rfl rfl (fun k hk => say_eq_no h0' hk) ?_
            refine ops_q rfl rfl (fun k hk => hk) ?_
            refine ops_q rfl rfl (fun k hk => hk) ?_
            refine ops_skip (b := true) rfl rfl rfl ?_
            refine ops_skip (b := true) rfl rfl rfl ?_
            refine ops_skip (b := true) rfl rfl rfl ?_
            refine ops_skip (b := true) rfl rfl rfl ?_
            refine ops_q rfl rfl (fun k hk => hk) ?_
            refine cw_false rfl (cw_skip ?_)
            refine cw_seq (cw_region rfl ?_)
            conv => whnf
            refine ⟨_, rfl, _, look_fn n N8.at_ hwk, ?_⟩
            obtain ⟨w', hw', h56', hs'⟩ := S6
            have ho' := I6.ok (List.mem_of_getElem? hw')
            have elk' : lookS W.1 n = (w', 0) := by rw [hn]; exact look_at hw' ho'.st
            have hk' := keysOk_get N8.at_.keys hw'
            rw [elk']
            rintro _ h9 ⟨rfl, x9⟩
            conv => whnf
            intro h10 n10
            conv => whnf
            refine store_wk (a := zeroW) n10.blk zeroW_key hk' ?_
            intro h11 w11
            have z10 := n10.size
            have z11 := w11.size
            have x911 : ExtH h9 h11 := ⟨by omega, fun b hb => by rw [w11.block b (by omega), n10.block b hb]⟩
            have N11 := (N8.more x9).more x911
            have y11 := x911.blk (x9.blk y8)
            have rst11 := y11.rd (o := 1) (v := .int .i64 w.st) rfl
            have rs' := w11.new.rd (o := 1) (v := .int .i64 w'.st) rfl
            have rl' := w11.new.rd (wkC_get_ld hk')
            have ri' := w11.new.rd (wkC_get_id hk')
            have hl0 := ho'.calm (by omega)
            have hi0 := ho'.still (by omega)
            have S11 : Shut W.1 i w.st := ⟨w', hw', h56', hs'⟩
            clear n10 w11
            conv => whnf
            refine cw_seq (cw_region rfl ?_)
            by_cases hsame : w'.st = w.st
            · by_cases h6' : w.st = 6
              · refine ops_q rfl rfl (fun k hk => hk) ?_
                refine ops_q (v := .bool false) rfl rfl (fun k hk => say_ne_no rfl hk) ?_
                refine ops_q rfl rfl (fun k hk => hk) ?_
                refine ops_g (b := false) rfl rfl rfl rfl (fun k hk => hk) ?_
                refine ops_g (b := false) rfl rfl rfl rfl (fun k hk => ⟨_, rs', hk⟩) ?_
                refine ops_g (b := false) rfl rfl rfl rfl (fun k hk => hk) ?_
                refine ops_g (b := false) rfl rfl rfl rfl (fun k hk => ⟨_, rst11, hk⟩) ?_
                refine ops_g (v := .bool false) (b := false) rfl rfl rfl rfl (fun k hk => say_ne_no hsame hk) ?_
                refine ops_g (b := false) rfl rfl rfl rfl (fun k hk => hk) ?_
                refine ops_skip (b := true) rfl rfl rfl ?_
                refine ops_skip (b := true) rfl rfl rfl ?_
                refine ops_skip (b := true) rfl rfl rfl ?_
                refine ops_g (b := false) rfl rfl rfl rfl (fun k hk => hk) ?_
                refine ops_q rfl rfl (fun k hk => hk) ?_
                refine ops_q rfl rfl (fun k hk => hk) ?_
                refine ops_g (b := false) rfl rfl rfl rfl (fun k hk => hk) ?_
                refine ops_g (b := false) rfl rfl rfl rfl (fun k hk => ⟨_, rl', hk⟩) ?_
                refine ops_g (v := .bool false) (b := false) rfl rfl rfl rfl (fun k hk => say_ne_no hl0 hk) ?_
                refine ops_q rfl rfl (fun k hk => hk) ?_
                refine ops_q rfl rfl (fun k hk => hk) ?_
                refine ops_g (b := false) rfl rfl rfl rfl (fun k hk => hk) ?_
                refine ops_g (b := false) rfl rfl rfl rfl (fun k hk => ⟨_, ri', hk⟩) ?_
                refine ops_g (v := .bool false) (b := false) rfl rfl rfl rfl (fun k hk => say_ne_no hi0 hk) ?_
                refine ops_q rfl rfl (fun k hk => hk) ?_
                refine ops_q rfl rfl (fun k hk => hk) ?_
                refine ops_g (b := false) rfl rfl rfl rfl (fun k hk => hk) ?_
                refine ops_g (b := false) rfl rfl rfl rfl (fun k hk => ⟨_, rst11, hk⟩) ?_
                refine ops_g (v := .bool true) (b := false) rfl rfl rfl rfl (fun k hk => say_eq (by omega) hk) ?_
                refine ops_g (b := false) rfl rfl rfl rfl (fun k hk => hk) ?_
                refine ops_g (b := true) rfl rfl rfl rfl (fun k hk => hk) ?_
                refine ops_g (b := true) rfl rfl rfl rfl (fun k hk => ⟨_, rs', hk⟩) ?_
                refine ops_g (v := .bool false) (b := true) rfl rfl rfl rfl (fun k hk => say_ne_no (by omega) hk) ?_
                refine ops_g (b := false) rfl rfl rfl rfl (fun k hk => hk) ?_
                refine ops_q rfl rfl (fun k hk => hk) ?_
                refine cw_false rfl (cw_skip ?_)
                refine cw_region rfl ?_
                exact ⟨t + 1, ⟨rfl, rfl, rfl, rfl, slot_i64 _ _ (by omega) (by omega), trivial⟩, ⟨by omega, _, _, N11, I6, S11, by omega, y11, nvb6⟩, by omega⟩
              · refine ops_q rfl rfl (fun k hk => hk) ?_
                refine ops_q (v := .bool false) rfl rfl (fun k hk => say_ne_no rfl hk) ?_
                refine ops_q rfl rfl (fun k hk => hk) ?_
                refine ops_g (b := false) rfl rfl rfl rfl (fun k hk => hk) ?_
                refine ops_g (b := false) rfl rfl rfl rfl (fun k hk => ⟨_, rs', hk⟩) ?_
                refine ops_g (b := false) rfl rfl rfl rfl (fun k hk => hk) ?_
                refine ops_g (b := false) rfl rfl rfl rfl (fun k hk => ⟨_, rst11, hk⟩) ?_
                refine ops_g (v := .bool false) (b := false) rfl rfl rfl rfl (fun k hk => say_ne_no hsame hk) ?_
                refine ops_g (b := false) rfl rfl rfl rfl (fun k hk => hk) ?_
                refine ops_skip (b := true) rfl rfl rfl ?_
                refine ops_skip (b := true) rfl rfl rfl ?_
                refine ops_skip (b := true) rfl rfl rfl ?_
                refine ops_g (b := false) rfl rfl rfl rfl (fun k hk => hk) ?_
                refine ops_q rfl rfl (fun k hk => hk) ?_
                refine ops_q rfl rfl (fun k hk => hk) ?_
                refine ops_g (b := false) rfl rfl rfl rfl (fun k hk => hk) ?_
                refine ops_g (b := false) rfl rfl rfl rfl (fun k hk => ⟨_, rl', hk⟩) ?_
                refine ops_g (v := .bool false) (b := false) rfl rfl rfl rfl (fun k hk => say_ne_no hl0 hk) ?_
                refine ops_q rfl rfl (fun k hk => hk) ?_
                refine ops_q rfl rfl (fun k hk => hk) ?_
                refine ops_g (b := false) rfl rfl rfl rfl (fun k hk => hk) ?_
                refine ops_g (b := false) rfl rfl rfl rfl (fun k hk => ⟨_, ri', hk⟩) ?_
                refine ops_g (v := .bool false) (b := false) rfl rfl rfl rfl (fun k hk => say_ne_no hi0 hk) ?_
                refine ops_q rfl rfl (fun k hk => hk) ?_
                refine ops_q rfl rfl (fun k hk => hk) ?_
                refine ops_g (b := false) rfl rfl rfl rfl (fun k hk => hk) ?_
                refine ops_g (b := false) rfl rfl rfl rfl (fun k hk => ⟨_, rst11, hk⟩) ?_
                refine ops_g (v := .bool false) (b := false) rfl rfl rfl rfl (fun k hk => say_eq_no (by omega) hk) ?_
                refine ops_g (b := false) rfl rfl rfl rfl (fun k hk => hk) ?_
                refine ops_skip (b := true) rfl rfl rfl ?_
                refine ops_skip (b := true) rfl rfl rfl ?_
                refine ops_skip (b := true) rfl rfl rfl ?_
                refine ops_g (b := false) rfl rfl rfl rfl (fun k hk => hk) ?_
                refine ops_q rfl rfl (fun k hk => hk) ?_
                refine cw_false rfl (cw_skip ?_)
                refine cw_region rfl ?_
                exact ⟨t + 1, ⟨rfl, rfl, rfl, rfl, slot_i64 _ _ (by omega) (by omega), trivial⟩, ⟨by omega, _, _, N11, I6, S11, by omega, y11, nvb6⟩, by omega⟩
            · refine ops_q rfl rfl (fun k hk => hk) ?_
              refine ops_q (v := .bool false) rfl rfl (fun k hk => say_ne_no rfl hk) ?_
              refine ops_q rfl rfl (fun k hk => hk) ?_
              refine ops_g (b := false) rfl rfl rfl rfl (fun k hk => hk) ?_
              refine ops_g (b := false) rfl rfl rfl rfl (fun k hk => ⟨_, rs', hk⟩) ?_
              refine ops_g (b := false) rfl rfl rfl rfl (fun k hk => hk) ?_
              refine ops_g (b := false) rfl rfl rfl rfl (fun k hk => ⟨_, rst11, hk⟩) ?_
              refine ops_g (v := .bool true) (b := false) rfl rfl rfl rfl (fun k hk => say_ne hsame hk) ?_
              refine ops_g (b := false) rfl rfl rfl rfl (fun k hk => hk) ?_
              refine ops_g (b := true) rfl rfl rfl rfl (fun k hk => hk) ?_
              refine ops_g (b := true) rfl rfl rfl rfl (fun k hk => ⟨_, rs', hk⟩) ?_
              refine ops_g (v := .bool false) (b := true) rfl rfl rfl rfl (fun k hk => say_ne_no (by omega) hk) ?_
              refine ops_g (b := false) rfl rfl rfl rfl (fun k hk => hk) ?_
              refine ops_q rfl rfl (fun k hk => hk) ?_
              refine ops_q rfl rfl (fun k hk => hk) ?_
              refine ops_g (b := false) rfl rfl rfl rfl (fun k hk => hk) ?_
              refine ops_g (b := false) rfl rfl rfl rfl (fun k hk => ⟨_, rl', hk⟩) ?_
              refine ops_g (v := .bool false) (b := false) rfl rfl rfl rfl (fun k hk => say_ne_no hl0 hk) ?_
              refine ops_q rfl rfl (fun k hk => hk) ?_
              refine ops_q rfl rfl (fun k hk => hk) ?_
              refine ops_g (b := false) rfl rfl rfl rfl (fun k hk => hk) ?_
              refine ops_g (b := false) rfl rfl rfl rfl (fun k hk => ⟨_, ri', hk⟩) ?_
              refine ops_g (v := .bool false) (b := false) rfl rfl rfl rfl (fun k hk => say_ne_no hi0 hk) ?_
              refine ops_q rfl rfl (fun k hk => hk) ?_
              refine ops_q rfl rfl (fun k hk => hk) ?_
              refine ops_g (b := false) rfl rfl rfl rfl (fun k hk => hk) ?_
              refine ops_g (b := false) rfl rfl rfl rfl (fun k hk => ⟨_, rst11, hk⟩) ?_
              refine ops_g (v := .bool false) (b := false) rfl rfl rfl rfl (fun k hk => say_eq_no (by omega) hk) ?_
              refine ops_g (b := false) rfl rfl rfl rfl (fun k hk => hk) ?_
              refine ops_skip (b := true) rfl rfl rfl ?_
              refine ops_skip (b := true) rfl rfl rfl ?_
              refine ops_skip (b := true) rfl rfl rfl ?_
              refine ops_g (b := false) rfl rfl rfl rfl (fun k hk => hk) ?_
              refine ops_q rfl rfl (fun k hk => hk) ?_
              refine cw_false rfl (cw_skip ?_)
              refine cw_region rfl ?_
              exact ⟨t + 1, ⟨rfl, rfl, rfl, rfl, slot_i64 _ _ (by omega) (by omega), trivial⟩, ⟨by omega, _, _, N11, I6, S11, by omega, y11, nvb6⟩, by omega⟩
          · refine cw_no rfl (by show ¬ (t : Int) < _; omega) (cw_exit ?_)
            refine cw_seq (cw_region rfl ?_)
            conv => whnf
            refine ⟨_, rfl, _, send_fn n N5.at_ I, ?_⟩
            rintro _ h6 ⟨rfl, A6, c6⟩
            have N6 := N5.turn A6 (Turned.of_chg c6)
            have es : (sendS ws n).2 = 261 := by rw [hn]; exact send_shut S
            refine ops_q (v := .bool true) rfl rfl (fun k hk => say_eq es hk) ?_
            conv => whnf
            refine ⟨_, rfl, _, awake_fn h6, ?_⟩
            rintro _ h7 ⟨rfl, x7⟩
            conv => whnf
            exact cw_ret ⟨rfl, xa.trans (N6.ext.trans x7)⟩
        · refine ops_q rfl rfl (fun k hk => hk) ?_
          refine ops_q (v := .bool false) rfl rfl (fun k hk => say_ne_no (by rw [elk]) hk) ?_
          refine ops_q rfl rfl (fun k hk => hk) ?_
          refine ops_g (b := false) rfl rfl rfl rfl (fun k hk => hk) ?_
          refine ops_g (b := false) rfl rfl rfl rfl (fun k hk => ⟨_, rst, hk⟩) ?_
          refine ops_g (v := .bool true) (b := false) rfl rfl rfl rfl (fun k hk => say_ne h5 hk) ?_
          refine ops_g (b := false) rfl rfl rfl rfl (fun k hk => hk) ?_
          refine ops_g (b := true) rfl rfl rfl rfl (fun k hk => hk) ?_
          refine ops_g (b := true) rfl rfl rfl rfl (fun k hk => ⟨_, rst, hk⟩) ?_
          refine ops_g (v := .bool false) (b := true) rfl rfl rfl rfl (fun k hk => say_ne_no (by omega) hk) ?_
          refine ops_g (b := false) rfl rfl rfl rfl (fun k hk => hk) ?_
          refine ops_q rfl rfl (fun k hk => hk) ?_
          refine cw_false rfl (cw_skip ?_)
          refine cw_seq (cw_seq (cw_region rfl ?_))
          refine cw_block ?_
          refine cw_loop (S := Nat) (fun t => [(2, .slice ma ms.length mc), (3, .int .i64 n), (9, .pointer (some ⟨p, 0, none⟩)), (10, .pointer (some ⟨h2.size, 0, none⟩)), (12, .int .i64 (t : Int))])
            (fun t h' => t ≤ ms.length ∧ ∃ v ws, PoolNew ha h' p v wk sl id ws ∧ Inv wk sl id ws ∧ Shut ws i w.st ∧ ws.length ≤ 10000000 + t ∧ Blk h' h2.size (wkC w) 31 ∧ ¬ ob v h2.size) (fun t => ms.length - t) 0 ⟨rfl, rfl, rfl, rfl, rfl, trivial⟩
            ⟨by omega, v, ws, N4, I, S, by omega, y4, nvb⟩ ?_
          have hkw := hlk
          clear N1 N2 N4 I S y4 nvb x2 x24 z3 z4 hlk he elk hw hlen hlen2 rst hrng
          rintro t h5 ⟨ht, v, ws, N5, I, S, hlen, y5, nvb⟩
          have rst := y5.rd (o := 1) (v := .int .i64 w.st) rfl
          have hsm := rm.small
          refine cw_seq (cw_seq (cw_region rfl ?_))
          conv => whnf
          by_cases hlt : t < ms.length
          · refine cw_yes rfl (by show (t : Int) < _; omega) (cw_skip ?_)
            have hx : ms[t]? = some ms[t] := List.getElem?_eq_getElem hlt
            generalize ms[t] = x at hx
            obtain ⟨b, o, rfl, hr⟩ := (rm.more (xa.trans N5.ext)).get t x hx
            have hxm := List.mem_of_getElem? hx
            have hr' : ∀ {h' : Heap}, ExtH h h' → rdN h' b (o + ((t : Int)).toNat * 5) (opC x.1 x.2) := fun e => by
              obtain ⟨b', o', hbo, hr'⟩ := (rm.more e).get t x hx
              injection hbo with hbo
              injection hbo with hb1 hb2
              subst hb1 hb2
              rwa [show o + t * 5 = o + ((t : Int)).toNat * 5 by omega] at hr'
            refine cw_seq (cw_block (cw_seq (cw_region rfl ?_)))
            conv => whnf
            refine ⟨⟨by omega, by omega⟩, ?_⟩
            conv => whnf
            refine ⟨opC x.1 x.2, rfl, by rwa [show o + t * 5 = o + ((t : Int)).toNat * 5 by omega] at hr, ?_⟩
            conv => whnf
            refine ⟨_, rfl, _, asks_fn x.1 N5.at_ I (by omega) ((rm.ks x hxm).more (xa.trans N5.ext)) (by have := rm.kss x hxm; omega), ?_⟩
            rintro _ h6 ⟨v', lv, rfl, A6, t6, o6, f6⟩
            have N6 := N5.turn A6 t6
            have hlen6 := (asks_length wk sl id ws x.1).1
            have I6 := I.asks x.1
            have S6 := S.asks (wk := wk) (sl := sl) (id := id) x.1
            have htold := fun hd => I.told S x.1 hd
            have y6 : Blk h6 h2.size (wkC w) 31 := t6.1.blk y5 (fun e => by
              rcases e with e | e
              · omega
              · exact nvb e)
            have nvb6 : ¬ ob v' h2.size := fun e => by
              rcases t6.2 _ e with e | e
              · exact nvb e
              · have := y5.lt; omega
            have hwk6 : (askS wk sl id ws x.1).2.w.key.length = 32 := askS_key N5.at_.keys x.1
            generalize askS wk sl id ws x.1 = W at N6 hlen6 I6 S6 htold hwk6 o6
            conv => whnf
            intro h7 n7
            conv => whnf
            refine store_told n7.blk hwk6 (o6.more n7.ext) ?_
            intro h8 w8
            have z7 := n7.size
            have z8 := w8.size
            have x68 : ExtH h6 h8 := ⟨by omega, fun b hb => by rw [w8.block b (by omega), n7.block b hb]⟩
            have N8 := N6.more x68
            have y8 := x68.blk y6
            have rtn := w8.new.rd (o := 0) (v := .int .i64 W.2.n) rfl
            clear n7 w8
            have rdo : rd h8 ⟨b, o + ((t : Int)).toNat * 5, none⟩ = some (.int .i64 x.1.d) := hr' (xa.trans N8.ext) 0 _ rfl
            have rst8 := x68.rd (y6.rd (o := 1) (v := .int .i64 w.st) rfl)
            refine cw_seq (cw_seq (cw_region rfl ?_))
            by_cases h8' : x.1.d = 8
            · have hno := htold (.inl h8')
              refine ops_q rfl rfl (fun k hk => hk) ?_
              refine ops_q rfl rfl (fun k hk => hk) ?_
              refine ops_q rfl rfl (fun k hk => ⟨⟨by omega, by omega⟩, hk⟩) ?_
              refine ops_q rfl rfl (fun k hk => hk) ?_
              refine ops_q rfl rfl (fun k hk => ⟨_, rdo, hk⟩) ?_
              refine ops_q (v := .bool true) rfl rfl (fun k hk => say_eq h8' hk) ?_
              refine ops_q rfl rfl (fun k hk => hk) ?_
              refine ops_skip (b := false) rfl rfl rfl ?_
              refine ops_skip (b := false) rfl rfl rfl ?_
              refine ops_skip (b := false) rfl rfl rfl ?_
              refine ops_skip (b := false) rfl rfl rfl ?_
              refine ops_skip (b := false) rfl rfl rfl ?_
              refine ops_skip (b := false) rfl rfl rfl ?_
              refine ops_q rfl rfl (fun k hk => hk) ?_
              refine ops_q rfl rfl (fun k hk => hk) ?_
              refine ops_skip (b := false) rfl rfl rfl ?_
              refine ops_skip (b := false) rfl rfl rfl ?_
              refine ops_skip (b := false) rfl rfl rfl ?_
              refine ops_skip (b := false) rfl rfl rfl ?_
              refine ops_skip (b := false) rfl rfl rfl ?_
              refine ops_skip (b := false) rfl rfl rfl ?_
              refine ops_q rfl rfl (fun k hk => hk) ?_
              refine ops_q rfl rfl (fun k hk => hk) ?_
              refine ops_g (b := true) rfl rfl rfl rfl (fun k hk => hk) ?_
              refine ops_g (b := true) rfl rfl rfl rfl (fun k hk => ⟨_, rtn, hk⟩) ?_
              refine ops_g (b := true) rfl rfl rfl rfl (fun k hk => hk) ?_
              refine ops_g (v := .bool false) (b := true) rfl rfl rfl rfl (fun k hk => say_eq_no (by rw [hn]; exact hno) hk) ?_
              refine ops_q rfl rfl (fun k hk => hk) ?_
              refine cw_false rfl (cw_skip ?_)
              refine cw_seq (cw_region rfl ?_)
              conv => whnf
              refine ⟨_, rfl, _, look_fn n N8.at_ hwk, ?_⟩
              obtain ⟨w', hw', h56', hs'⟩ := S6
              have ho' := I6.ok (List.mem_of_getElem? hw')
              have elk' : lookS W.1 n = (w', 0) := by rw [hn]; exact look_at hw' ho'.st
              have hk' := keysOk_get N8.at_.keys hw'
              rw [elk']
              rintro _ h9 ⟨rfl, x9⟩
              conv => whnf
              intro h10 n10
              conv => whnf
              refine store_wk (a := zeroW) n10.blk zeroW_key hk' ?_
              intro h11 w11
              have z10 := n10.size
              have z11 := w11.size
              have x911 : ExtH h9 h11 := ⟨by omega, fun b hb => by rw [w11.block b (by omega), n10.block b hb]⟩
              have N11 := (N8.more x9).more x911
              have y11 := x911.blk (x9.blk y8)
              have rst11 := y11.rd (o := 1) (v := .int .i64 w.st) rfl
              have rs' := w11.new.rd (o := 1) (v := .int .i64 w'.st) rfl
              have rl' := w11.new.rd (wkC_get_ld hk')
              have ri' := w11.new.rd (wkC_get_id hk')
              have hl0 := ho'.calm (by omega)
              have hi0 := ho'.still (by omega)
              have S11 : Shut W.1 i w.st := ⟨w', hw', h56', hs'⟩
              clear n10 w11
              conv => whnf
              refine cw_seq (cw_region rfl ?_)
              by_cases hsame : w'.st = w.st
              · by_cases h6' : w.st = 6
                · refine ops_q rfl rfl (fun k hk => hk) ?_
                  refine ops_q (v := .bool false) rfl rfl (fun k hk => say_ne_no rfl hk) ?_
                  refine ops_q rfl rfl (fun k hk => hk) ?_
                  refine ops_g (b := false) rfl rfl rfl rfl (fun k hk => hk) ?_
                  refine ops_g (b := false) rfl rfl rfl rfl (fun k hk => ⟨_, rs', hk⟩) ?_
                  refine ops_g (b := false) rfl rfl rfl rfl (fun k hk => hk) ?_
                  refine ops_g (b := false) rfl rfl rfl rfl (fun k hk => ⟨_, rst11, hk⟩) ?_
                  refine ops_g (v := .bool false) (b := false) rfl rfl rfl rfl (fun k hk => say_ne_no hsame hk) ?_
                  refine ops_g (b := false) rfl rfl rfl rfl (fun k hk => hk) ?_
                  refine ops_skip (b := true) rfl rfl rfl ?_
                  refine ops_skip (b := true) rfl rfl rfl ?_
                  refine ops_skip (b := true) rfl rfl rfl ?_
                  refine ops_g (b := false) rfl rfl rfl rfl (fun k hk => hk) ?_
                  refine ops_q rfl rfl (fun k hk => hk) ?_
                  refine ops_q rfl rfl (fun k hk => hk) ?_
                  refine ops_g (b := false) rfl rfl rfl rfl (fun k hk => hk) ?_
                  refine ops_g (b := false) rfl rfl rfl rfl (fun k hk => ⟨_, rl', hk⟩) ?_
                  refine ops_g (v := .bool false) (b := false) rfl rfl rfl rfl (fun k hk => say_ne_no hl0 hk) ?_
                  refine ops_q rfl rfl (fun k hk => hk) ?_
                  refine ops_q rfl rfl (fun k hk => hk) ?_
                  refine ops_g (b := false) rfl rfl rfl rfl (fun k hk => hk) ?_
                  refine ops_g (b := false) rfl rfl rfl rfl (fun k hk => ⟨_, ri', hk⟩) ?_
                  refine ops_g (v := .bool false) (b := false) rfl rfl rfl rfl (fun k hk => say_ne_no hi0 hk) ?_
                  refine ops_q rfl rfl (fun k hk => hk) ?_
                  refine ops_q rfl rfl (fun k hk => hk) ?_
                  refine ops_g (b := false) rfl rfl rfl rfl (fun k hk => hk) ?_
                  refine ops_g (b := false) rfl rfl rfl rfl (fun k hk => ⟨_, rst11, hk⟩) ?_
                  refine ops_g (v := .bool true) (b := false) rfl rfl rfl rfl (fun k hk => say_eq (by omega) hk) ?_
                  refine ops_g (b := false) rfl rfl rfl rfl (fun k hk => hk) ?_
                  refine ops_g (b := true) rfl rfl rfl rfl (fun k hk => hk) ?_
                  refine ops_g (b := true) rfl rfl rfl rfl (fun k hk => ⟨_, rs', hk⟩) ?_
                  refine ops_g (v := .bool false) (b := true) rfl rfl rfl rfl (fun k hk => say_ne_no (by omega) hk) ?_
                  refine ops_g (b := false) rfl rfl rfl rfl (fun k hk => hk) ?_
                  refine ops_q rfl rfl (fun k hk => hk) ?_
                  refine cw_false rfl (cw_skip ?_)
                  refine cw_region rfl ?_
                  exact ⟨t + 1, ⟨rfl, rfl, rfl, rfl, slot_i64 _ _ (by omega) (by omega), trivial⟩, ⟨by omega, _, _, N11, I6, S11, by omega, y11, nvb6⟩, by omega⟩
                · refine ops_q rfl rfl (fun k hk => hk) ?_
                  refine ops_q (v := .bool false) rfl rfl (fun k hk => say_ne_no rfl hk) ?_
                  refine ops_q rfl rfl (fun k hk => hk) ?_
                  refine ops_g (b := false) rfl rfl rfl rfl (fun k hk => hk) ?_
                  refine ops_g (b := false) rfl rfl rfl rfl (fun k hk => ⟨_, rs', hk⟩) ?_
                  refine ops_g (b := false) rfl rfl rfl rfl (fun k hk => hk) ?_
                  refine ops_g (b := false) rfl rfl rfl rfl (fun k hk => ⟨_, rst11, hk⟩) ?_
                  refine ops_g (v := .bool false) (b := false) rfl rfl rfl rfl (fun k hk => say_ne_no hsame hk) ?_
                  refine ops_g (b := false) rfl rfl rfl rfl (fun k hk => hk) ?_
                  refine ops_skip (b := true) rfl rfl rfl ?_
                  refine ops_skip (b := true) rfl rfl rfl ?_
                  refine ops_skip (b := true) rfl rfl rfl ?_
                  refine ops_g (b := false) rfl rfl rfl rfl (fun k hk => hk) ?_
                  refine ops_q rfl rfl (fun k hk => hk) ?_
                  refine ops_q rfl rfl (fun k hk => hk) ?_
                  refine ops_g (b := false) rfl rfl rfl rfl (fun k hk => hk) ?_
                  refine ops_g (b := false) rfl rfl rfl rfl (fun k hk => ⟨_, rl', hk⟩) ?_
                  refine ops_g (v := .bool false) (b := false) rfl rfl rfl rfl (fun k hk => say_ne_no hl0 hk) ?_
                  refine ops_q rfl rfl (fun k hk => hk) ?_
                  refine ops_q rfl rfl (fun k hk => hk) ?_
                  refine ops_g (b := false) rfl rfl rfl rfl (fun k hk => hk) ?_
                  refine ops_g (b := false) rfl rfl rfl rfl (fun k hk => ⟨_, ri', hk⟩) ?_
                  refine ops_g (v := .bool false) (b := false) rfl rfl rfl rfl (fun k hk => say_ne_no hi0 hk) ?_
                  refine ops_q rfl rfl (fun k hk => hk) ?_
                  refine ops_q rfl rfl (fun k hk => hk) ?_
                  refine ops_g (b := false) rfl rfl rfl rfl (fun k hk => hk) ?_
                  refine ops_g (b := false) rfl rfl rfl rfl (fun k hk => ⟨_, rst11, hk⟩) ?_
                  refine ops_g (v := .bool false) (b := false) rfl rfl rfl rfl (fun k hk => say_eq_no (by omega) hk) ?_
                  refine ops_g (b := false) rfl rfl rfl rfl (fun k hk => hk) ?_
                  refine ops_skip (b := true) rfl rfl rfl ?_
                  refine ops_skip (b := true) rfl rfl rfl ?_
                  refine ops_skip (b := true) rfl rfl rfl ?_
                  refine ops_g (b := false) rfl rfl rfl rfl (fun k hk => hk) ?_
                  refine ops_q rfl rfl (fun k hk => hk) ?_
                  refine cw_false rfl (cw_skip ?_)
                  refine cw_region rfl ?_
                  exact ⟨t + 1, ⟨rfl, rfl, rfl, rfl, slot_i64 _ _ (by omega) (by omega), trivial⟩, ⟨by omega, _, _, N11, I6, S11, by omega, y11, nvb6⟩, by omega⟩
              · refine ops_q rfl rfl (fun k hk => hk) ?_
                refine ops_q (v := .bool false) rfl rfl (fun k hk => say_ne_no rfl hk) ?_
                refine ops_q rfl rfl (fun k hk => hk) ?_
                refine ops_g (b := false) rfl rfl rfl rfl (fun k hk => hk) ?_
                refine ops_g (b := false) rfl rfl rfl rfl (fun k hk => ⟨_, rs', hk⟩) ?_
                refine ops_g (b := false) rfl rfl rfl rfl (fun k hk => hk) ?_
                refine ops_g (b := false) rfl rfl rfl rfl (fun k hk => ⟨_, rst11, hk⟩) ?_
                refine ops_g (v := .bool true) (b := false) rfl rfl rfl rfl (fun k hk => say_ne hsame hk) ?_
                refine ops_g (b := false) rfl rfl rfl rfl (fun k hk => hk) ?_
                refine ops_g (b := true) rfl rfl rfl rfl (fun k hk => hk) ?_
                refine ops_g (b := true) rfl rfl rfl rfl (fun k hk => ⟨_, rs', hk⟩) ?_
                refine ops_g (v := .bool false) (b := true) rfl rfl rfl rfl (fun k hk => say_ne_no (by omega) hk) ?_
                refine ops_g (b := false) rfl rfl rfl rfl (fun k hk => hk) ?_
                refine ops_q rfl rfl (fun k hk => hk) ?_
                refine ops_q rfl rfl (fun k hk => hk) ?_
                refine ops_g (b := false) rfl rfl rfl rfl (fun k hk => hk) ?_
                refine ops_g (b := false) rfl rfl rfl rfl (fun k hk => ⟨_, rl', hk⟩) ?_
                refine ops_g (v := .bool false) (b := false) rfl rfl rfl rfl (fun k hk => say_ne_no hl0 hk) ?_
                refine ops_q rfl rfl (fun k hk => hk) ?_
                refine ops_q rfl rfl (fun k hk => hk) ?_
                refine ops_g (b := false) rfl rfl rfl rfl (fun k hk => hk) ?_
                refine ops_g (b := false) rfl rfl rfl rfl (fun k hk => ⟨_, ri', hk⟩) ?_
                refine ops_g (v := .bool false) (b := false) rfl rfl rfl rfl (fun k hk => say_ne_no hi0 hk) ?_
                refine ops_q rfl rfl (fun k hk => hk) ?_
                refine ops_q rfl rfl (fun k hk => hk) ?_
                refine ops_g (b := false) rfl rfl rfl rfl (fun k hk => hk) ?_
                refine ops_g (b := false) rfl rfl rfl rfl (fun k hk => ⟨_, rst11, hk⟩) ?_
                refine ops_g (v := .bool false) (b := false) rfl rfl rfl rfl (fun k hk => say_eq_no (by omega) hk) ?_
                refine ops_g (b := false) rfl rfl rfl rfl (fun k hk => hk) ?_
                refine ops_skip (b := true) rfl rfl rfl ?_
                refine ops_skip (b := true) rfl rfl rfl ?_
                refine ops_skip (b := true) rfl rfl rfl ?_
                refine ops_g (b := false) rfl rfl rfl rfl (fun k hk => hk) ?_
                refine ops_q rfl rfl (fun k hk => hk) ?_
                refine cw_false rfl (cw_skip ?_)
                refine cw_region rfl ?_
                exact ⟨t + 1, ⟨rfl, rfl, rfl, rfl, slot_i64 _ _ (by omega) (by omega), trivial⟩, ⟨by omega, _, _, N11, I6, S11, by omega, y11, nvb6⟩, by omega⟩
            by_cases h9' : x.1.d = 9
            · have hno := htold (.inr (.inl h9'))
              refine ops_q rfl rfl (fun k hk => hk) ?_
              refine ops_q rfl rfl (fun k hk => hk) ?_
              refine ops_q rfl rfl (fun k hk => ⟨⟨by omega, by omega⟩, hk⟩) ?_
              refine ops_q rfl rfl (fun k hk => hk) ?_
              refine ops_q rfl rfl (fun k hk => ⟨_, rdo, hk⟩) ?_
              refine ops_q (v := .bool false) rfl rfl (fun k hk => say_eq_no h8' hk) ?_
              refine ops_q rfl rfl (fun k hk => hk) ?_
              refine ops_g (b := false) rfl rfl rfl rfl (fun k hk => hk) ?_
              refine ops_g (b := false) rfl rfl rfl rfl (fun k hk => hk) ?_
              refine ops_g (b := false) rfl rfl rfl rfl (fun k hk => ⟨⟨by omega, by omega⟩, hk⟩) ?_
              refine ops_g (b := false) rfl rfl rfl rfl (fun k hk => hk) ?_
              refine ops_g (b := false) rfl rfl rfl rfl (fun k hk => ⟨_, rdo, hk⟩) ?_
              refine ops_g (v := .bool true) (b := false) rfl rfl rfl rfl (fun k hk => say_eq h9' hk) ?_
              refine ops_q rfl rfl (fun k hk => hk) ?_
              refine ops_q rfl rfl (fun k hk => hk) ?_
              refine ops_skip (b := false) rfl rfl rfl ?_
              refine ops_skip (b := false) rfl rfl rfl ?_
              refine ops_skip (b := false) rfl rfl rfl ?_
              refine ops_skip (b := false) rfl rfl rfl ?_
              refine ops_skip (b := false) rfl rfl rfl ?_
              refine ops_skip (b := false) rfl rfl rfl ?_
              refine ops_q rfl rfl (fun k hk => hk) ?_
              refine ops_q rfl rfl (fun k hk => hk) ?_
              refine ops_g (b := true) rfl rfl rfl rfl (fun k hk => hk) ?_
              refine ops_g (b := true) rfl rfl rfl rfl (fun k hk => ⟨_, rtn, hk⟩) ?_
              refine ops_g (b := true) rfl rfl rfl rfl (fun k hk => hk) ?_
              refine ops_g (v := .bool false) (b := true) rfl rfl rfl rfl (fun k hk => say_eq_no (by rw [hn]; exact hno) hk) ?_
              refine ops_q rfl rfl (fun k hk => hk) ?_
              refine cw_false rfl (cw_skip ?_)
              refine cw_seq (cw_region rfl ?_)
              conv => whnf
              refine ⟨_, rfl, _, look_fn n N8.at_ hwk, ?_⟩
              obtain ⟨w', hw', h56', hs'⟩ := S6
              have ho' := I6.ok (List.mem_of_getElem? hw')
              have elk' : lookS W.1 n = (w', 0) := by rw [hn]; exact look_at hw' ho'.st
              have hk' := keysOk_get N8.at_.keys hw'
              rw [elk']
              rintro _ h9 ⟨rfl, x9⟩
              conv => whnf
              intro h10 n10
              conv => whnf
              refine store_wk (a := zeroW) n10.blk zeroW_key hk' ?_
              intro h11 w11
              have z10 := n10.size
              have z11 := w11.size
              have x911 : ExtH h9 h11 := ⟨by omega, fun b hb => by rw [w11.block b (by omega), n10.block b hb]⟩
              have N11 := (N8.more x9).more x911
              have y11 := x911.blk (x9.blk y8)
              have rst11 := y11.rd (o := 1) (v := .int .i64 w.st) rfl
              have rs' := w11.new.rd (o := 1) (v := .int .i64 w'.st) rfl
              have rl' := w11.new.rd (wkC_get_ld hk')
              have ri' := w11.new.rd (wkC_get_id hk')
              have hl0 := ho'.calm (by omega)
              have hi0 := ho'.still (by omega)
              have S11 : Shut W.1 i w.st := ⟨w', hw', h56', hs'⟩
              clear n10 w11
              conv => whnf
              refine cw_seq (cw_region rfl ?_)
              by_cases hsame : w'.st = w.st
              · by_cases h6' : w.st = 6
                · refine ops_q rfl rfl (fun k hk => hk) ?_
                  refine ops_q (v := .bool false) rfl rfl (fun k hk => say_ne_no rfl hk) ?_
                  refine ops_q rfl rfl (fun k hk => hk) ?_
                  refine ops_g (b := false) rfl rfl rfl rfl (fun k hk => hk) ?_
                  refine ops_g (b := false) rfl rfl rfl rfl (fun k hk => ⟨_, rs', hk⟩) ?_
                  refine ops_g (b := false) rfl rfl rfl rfl (fun k hk => hk) ?_
                  refine ops_g (b := false) rfl rfl rfl rfl (fun k hk => ⟨_, rst11, hk⟩) ?_
                  refine ops_g (v := .bool false) (b := false) rfl rfl rfl rfl (fun k hk => say_ne_no hsame hk) ?_
                  refine ops_g (b := false) rfl rfl rfl rfl (fun k hk => hk) ?_
                  refine ops_skip (b := true) rfl rfl rfl ?_
                  refine ops_skip (b := true) rfl rfl rfl ?_
                  refine ops_skip (b := true) rfl rfl rfl ?_
                  refine ops_g (b := false) rfl rfl rfl rfl (fun k hk => hk) ?_
                  refine ops_q rfl rfl (fun k hk => hk) ?_
                  refine ops_q rfl rfl (fun k hk => hk) ?_
                  refine ops_g (b := false) rfl rfl rfl rfl (fun k hk => hk) ?_
                  refine ops_g (b := false) rfl rfl rfl rfl (fun k hk => ⟨_, rl', hk⟩) ?_
                  refine ops_g (v := .bool false) (b := false) rfl rfl rfl rfl (fun k hk => say_ne_no hl0 hk) ?_
                  refine ops_q rfl rfl (fun k hk => hk) ?_
                  refine ops_q rfl rfl (fun k hk => hk) ?_
                  refine ops_g (b := false) rfl rfl rfl rfl (fun k hk => hk) ?_
                  refine ops_g (b := false) rfl rfl rfl rfl (fun k hk => ⟨_, ri', hk⟩) ?_
                  refine ops_g (v := .bool false) (b := false) rfl rfl rfl rfl (fun k hk => say_ne_no hi0 hk) ?_
                  refine ops_q rfl rfl (fun k hk => hk) ?_
                  refine ops_q rfl rfl (fun k hk => hk) ?_
                  refine ops_g (b := false) rfl rfl rfl rfl (fun k hk => hk) ?_
                  refine ops_g (b := false) rfl rfl rfl rfl (fun k hk => ⟨_, rst11, hk⟩) ?_
                  refine ops_g (v := .bool true) (b := false) rfl rfl rfl rfl (fun k hk => say_eq (by omega) hk) ?_
                  refine ops_g (b := false) rfl rfl rfl rfl (fun k hk => hk) ?_
                  refine ops_g (b := true) rfl rfl rfl rfl (fun k hk => hk) ?_
                  refine ops_g (b := true) rfl rfl rfl rfl (fun k hk => ⟨_, rs', hk⟩) ?_
                  refine ops_g (v := .bool false) (b := true) rfl rfl rfl rfl (fun k hk => say_ne_no (by omega) hk) ?_
                  refine ops_g (b := false) rfl rfl rfl rfl (fun k hk => hk) ?_
                  refine ops_q rfl rfl (fun k hk => hk) ?_
                  refine cw_false rfl (cw_skip ?_)
                  refine cw_region rfl ?_
                  exact ⟨t + 1, ⟨rfl, rfl, rfl, rfl, slot_i64 _ _ (by omega) (by omega), trivial⟩, ⟨by omega, _, _, N11, I6, S11, by omega, y11, nvb6⟩, by omega⟩
                · refine ops_q rfl rfl (fun k hk => hk) ?_
                  refine ops_q (v := .bool false) rfl rfl (fun k hk => say_ne_no rfl hk) ?_
                  refine ops_q rfl rfl (fun k hk => hk) ?_
                  refine ops_g (b := false) rfl rfl rfl rfl (fun k hk => hk) ?_
                  refine ops_g (b := false) rfl rfl rfl rfl (fun k hk => ⟨_, rs', hk⟩) ?_
                  refine ops_g (b := false) rfl rfl rfl rfl (fun k hk => hk) ?_
                  refine ops_g (b := false) rfl rfl rfl rfl (fun k hk => ⟨_, rst11, hk⟩) ?_
                  refine ops_g (v := .bool false) (b := false) rfl rfl rfl rfl (fun k hk => say_ne_no hsame hk) ?_
                  refine ops_g (b := false) rfl rfl rfl rfl (fun k hk => hk) ?_
                  refine ops_skip (b := true) rfl rfl rfl ?_
                  refine ops_skip (b := true) rfl rfl rfl ?_
                  refine ops_skip (b := true) rfl rfl rfl ?_
                  refine ops_g (b := false) rfl rfl rfl rfl (fun k hk => hk) ?_
                  refine ops_q rfl rfl (fun k hk => hk) ?_
                  refine ops_q rfl rfl (fun k hk => hk) ?_
                  refine ops_g (b := false) rfl rfl rfl rfl (fun k hk => hk) ?_
                  refine ops_g (b := false) rfl rfl rfl rfl (fun k hk => ⟨_, rl', hk⟩) ?_
                  refine ops_g (v := .bool false) (b := false) rfl rfl rfl rfl (fun k hk => say_ne_no hl0 hk) ?_
                  refine ops_q rfl rfl (fun k hk => hk) ?_
                  refine ops_q rfl rfl (fun k hk => hk) ?_
                  refine ops_g (b := false) rfl rfl rfl rfl (fun k hk => hk) ?_
                  refine ops_g (b := false) rfl rfl rfl rfl (fun k hk => ⟨_, ri', hk⟩) ?_
                  refine ops_g (v := .bool false) (b := false) rfl rfl rfl rfl (fun k hk => say_ne_no hi0 hk) ?_
                  refine ops_q rfl rfl (fun k hk => hk) ?_
                  refine ops_q rfl rfl (fun k hk => hk) ?_
                  refine ops_g (b := false) rfl rfl rfl rfl (fun k hk => hk) ?_
                  refine ops_g (b := false) rfl rfl rfl rfl (fun k hk => ⟨_, rst11, hk⟩) ?_
                  refine ops_g (v := .bool false) (b := false) rfl rfl rfl rfl (fun k hk => say_eq_no (by omega) hk) ?_
                  refine ops_g (b := false) rfl rfl rfl rfl (fun k hk => hk) ?_
                  refine ops_skip (b := true) rfl rfl rfl ?_
                  refine ops_skip (b := true) rfl rfl rfl ?_
                  refine ops_skip (b := true) rfl rfl rfl ?_
                  refine ops_g (b := false) rfl rfl rfl rfl (fun k hk => hk) ?_
                  refine ops_q rfl rfl (fun k hk => hk) ?_
                  refine cw_false rfl (cw_skip ?_)
                  refine cw_region rfl ?_
                  exact ⟨t + 1, ⟨rfl, rfl, rfl, rfl, slot_i64 _ _ (by omega) (by omega), trivial⟩, ⟨by omega, _, _, N11, I6, S11, by omega, y11, nvb6⟩, by omega⟩
              · refine ops_q rfl rfl (fun k hk => hk) ?_
                refine ops_q (v := .bool false) rfl rfl (fun k hk => say_ne_no rfl hk) ?_
                refine ops_q rfl rfl (fun k hk => hk) ?_
                refine ops_g (b := false) rfl rfl rfl rfl (fun k hk => hk) ?_
                refine ops_g (b := false) rfl rfl rfl rfl (fun k hk => ⟨_, rs', hk⟩) ?_
                refine ops_g (b := false) rfl rfl rfl rfl (fun k hk => hk) ?_
                refine ops_g (b := false) rfl rfl rfl rfl (fun k hk => ⟨_, rst11, hk⟩) ?_
                refine ops_g (v := .bool true) (b := false) rfl rfl rfl rfl (fun k hk => say_ne hsame hk) ?_
                refine ops_g (b := false) rfl rfl rfl rfl (fun k hk => hk) ?_
                refine ops_g (b := true) rfl rfl rfl rfl (fun k hk => hk) ?_
                refine ops_g (b := true) rfl rfl rfl rfl (fun k hk => ⟨_, rs', hk⟩) ?_
                refine ops_g (v := .bool false) (b := true) rfl rfl rfl rfl (fun k hk => say_ne_no (by omega) hk) ?_
                refine ops_g (b := false) rfl rfl rfl rfl (fun k hk => hk) ?_
                refine ops_q rfl rfl (fun k hk => hk) ?_
                refine ops_q rfl rfl (fun k hk => hk) ?_
                refine ops_g (b := false) rfl rfl rfl rfl (fun k hk => hk) ?_
                refine ops_g (b := false) rfl rfl rfl rfl (fun k hk => ⟨_, rl', hk⟩) ?_
                refine ops_g (v := .bool false) (b := false) rfl rfl rfl rfl (fun k hk => say_ne_no hl0 hk) ?_
                refine ops_q rfl rfl (fun k hk => hk) ?_
                refine ops_q rfl rfl (fun k hk => hk) ?_
                refine ops_g (b := false) rfl rfl rfl rfl (fun k hk => hk) ?_
                refine ops_g (b := false) rfl rfl rfl rfl (fun k hk => ⟨_, ri', hk⟩) ?_
                refine ops_g (v := .bool false) (b := false) rfl rfl rfl rfl (fun k hk => say_ne_no hi0 hk) ?_
                refine ops_q rfl rfl (fun k hk => hk) ?_
                refine ops_q rfl rfl (fun k hk => hk) ?_
                refine ops_g (b := false) rfl rfl rfl rfl (fun k hk => hk) ?_
                refine ops_g (b := false) rfl rfl rfl rfl (fun k hk => ⟨_, rst11, hk⟩) ?_
                refine ops_g (v := .bool false) (b := false) rfl rfl rfl rfl (fun k hk => say_eq_no (by omega) hk) ?_
                refine ops_g (b := false) rfl rfl rfl rfl (fun k hk => hk) ?_
                refine ops_skip (b := true) rfl rfl rfl ?_
                refine ops_skip (b := true) rfl rfl rfl ?_
                refine ops_skip (b := true) rfl rfl rfl ?_
                refine ops_g (b := false) rfl rfl rfl rfl (fun k hk => hk) ?_
                refine ops_q rfl rfl (fun k hk => hk) ?_
                refine cw_false rfl (cw_skip ?_)
                refine cw_region rfl ?_
                exact ⟨t + 1, ⟨rfl, rfl, rfl, rfl, slot_i64 _ _ (by omega) (by omega), trivial⟩, ⟨by omega, _, _, N11, I6, S11, by omega, y11, nvb6⟩, by omega⟩
            by_cases h0' : x.1.d = 0
            · have hno := htold (.inr (.inr h0'))
              refine ops_q rfl rfl (fun k hk => hk) ?_
              refine ops_q rfl rfl (fun k hk => hk) ?_
              refine ops_q rfl rfl (fun k hk => ⟨⟨by omega, by omega⟩, hk⟩) ?_
              refine ops_q rfl rfl (fun k hk => hk) ?_
              refine ops_q rfl rfl (fun k hk => ⟨_, rdo, hk⟩) ?_
              refine ops_q (v := .bool false) rfl rfl (fun k hk => say_eq_no h8' hk) ?_
              refine ops_q rfl rfl (fun k hk => hk) ?_
              refine ops_g (b := false) rfl rfl rfl rfl (fun k hk => hk) ?_
              refine ops_g (b := false) rfl rfl rfl rfl (fun k hk => hk) ?_
              refine ops_g (b := false) rfl rfl rfl rfl (fun k hk => ⟨⟨by omega, by omega⟩, hk⟩) ?_
              refine ops_g (b := false) rfl rfl rfl rfl (fun k hk => hk) ?_
              refine ops_g (b := false) rfl rfl rfl rfl (fun k hk => ⟨_, rdo, hk⟩) ?_
              refine ops_g (v := .bool false) (b := false) rfl rfl rfl rfl (fun k hk => say_eq_no h9' hk) ?_
              refine ops_q rfl rfl (fun k hk => hk) ?_
              refine ops_q rfl rfl (fun k hk => hk) ?_
              refine ops_g (b := false) rfl rfl rfl rfl (fun k hk => hk) ?_
              refine ops_g (b := false) rfl rfl rfl rfl (fun k hk => hk) ?_
              refine ops_g (b := false) rfl rfl rfl rfl (fun k hk => ⟨⟨by omega, by omega⟩, hk⟩) ?_
              refine ops_g (b := false) rfl rfl rfl rfl (fun k hk => hk) ?_
              refine ops_g (b := false) rfl rfl rfl rfl (fun k hk => ⟨_, rdo, hk⟩) ?_
              refine ops_g (v := .bool true) (b := false) rfl rfl rfl rfl (fun k hk => say_eq h0' hk) ?_
              refine ops_q rfl rfl (fun k hk => hk) ?_
              refine ops_q rfl rfl (fun k hk => hk) ?_
              refine ops_g (b := true) rfl rfl rfl rfl (fun k hk => hk) ?_
              refine ops_g (b := true) rfl rfl rfl rfl (fun k hk => ⟨_, rtn, hk⟩) ?_
              refine ops_g (b := true) rfl rfl rfl rfl (fun k hk => hk) ?_
              refine ops_g (v := .bool false) (b := true) rfl rfl rfl rfl (fun k hk => say_eq_no (by rw [hn]; exact hno) hk) ?_
              refine ops_q rfl rfl (fun k hk => hk) ?_
              refine cw_false rfl (cw_skip ?_)
              refine cw_seq (cw_region rfl ?_)
              conv => whnf
              refine ⟨_, rfl, _, look_fn n N8.at_ hwk, ?_⟩
              obtain ⟨w', hw', h56', hs'⟩ := S6
              have ho' := I6.ok (List.mem_of_getElem? hw')
              have elk' : lookS W.1 n = (w', 0) := by rw [hn]; exact look_at hw' ho'.st
              have hk' := keysOk_get N8.at_.keys hw'
              rw [elk']
              rintro _ h9 ⟨rfl, x9⟩
              conv => whnf
              intro h10 n10
              conv => whnf
              refine store_wk (a := zeroW) n10.blk zeroW_key hk' ?_
              intro h11 w11
              have z10 := n10.size
              have z11 := w11.size
              have x911 : ExtH h9 h11 := ⟨by omega, fun b hb => by rw [w11.block b (by omega), n10.block b hb]⟩
              have N11 := (N8.more x9).more x911
              have y11 := x911.blk (x9.blk y8)
              have rst11 := y11.rd (o := 1) (v := .int .i64 w.st) rfl
              have rs' := w11.new.rd (o := 1) (v := .int .i64 w'.st) rfl
              have rl' := w11.new.rd (wkC_get_ld hk')
              have ri' := w11.new.rd (wkC_get_id hk')
              have hl0 := ho'.calm (by omega)
              have hi0 := ho'.still (by omega)
              have S11 : Shut W.1 i w.st := ⟨w', hw', h56', hs'⟩
              clear n10 w11
              conv => whnf
              refine cw_seq (cw_region rfl ?_)
              by_cases hsame : w'.st = w.st
              · by_cases h6' : w.st = 6
                · refine ops_q rfl rfl (fun k hk => hk) ?_
                  refine ops_q (v := .bool false) rfl rfl (fun k hk => say_ne_no rfl hk) ?_
                  refine ops_q rfl rfl (fun k hk => hk) ?_
                  refine ops_g (b := false) rfl rfl rfl rfl (fun k hk => hk) ?_
                  refine ops_g (b := false) rfl rfl rfl rfl (fun k hk => ⟨_, rs', hk⟩) ?_
                  refine ops_g (b := false) rfl rfl rfl rfl (fun k hk => hk) ?_
                  refine ops_g (b := false) rfl rfl rfl rfl (fun k hk => ⟨_, rst11, hk⟩) ?_
                  refine ops_g (v := .bool false) (b := false) rfl rfl rfl rfl (fun k hk => say_ne_no hsame hk) ?_
                  refine ops_g (b := false) rfl rfl rfl rfl (fun k hk => hk) ?_
                  refine ops_skip (b := true) rfl rfl rfl ?_
                  refine ops_skip (b := true) rfl rfl rfl ?_
                  refine ops_skip (b := true) rfl rfl rfl ?_
                  refine ops_g (b := false) rfl rfl rfl rfl (fun k hk => hk) ?_
                  refine ops_q rfl rfl (fun k hk => hk) ?_
                  refine ops_q rfl rfl (fun k hk => hk) ?_
                  refine ops_g (b := false) rfl rfl rfl rfl (fun k hk => hk) ?_
                  refine ops_g (b := false) rfl rfl rfl rfl (fun k hk => ⟨_, rl', hk⟩) ?_
                  refine ops_g (v := .bool false) (b := false) rfl rfl rfl rfl (fun k hk => say_ne_no hl0 hk) ?_
                  refine ops_q rfl rfl (fun k hk => hk) ?_
                  refine ops_q rfl rfl (fun k hk => hk) ?_
                  refine ops_g (b := false) rfl rfl rfl rfl (fun k hk => hk) ?_
                  refine ops_g (b := false) rfl rfl rfl rfl (fun k hk => ⟨_, ri', hk⟩) ?_
                  refine ops_g (v := .bool false) (b := false) rfl rfl rfl rfl (fun k hk => say_ne_no hi0 hk) ?_
                  refine ops_q rfl rfl (fun k hk => hk) ?_
                  refine ops_q rfl rfl (fun k hk => hk) ?_
                  refine ops_g (b := false) rfl rfl rfl rfl (fun k hk => hk) ?_
                  refine ops_g (b := false) rfl rfl rfl rfl (fun k hk => ⟨_, rst11, hk⟩) ?_
                  refine ops_g (v := .bool true) (b := false) rfl rfl rfl rfl (fun k hk => say_eq (by omega) hk) ?_
                  refine ops_g (b := false) rfl rfl rfl rfl (fun k hk => hk) ?_
                  refine ops_g (b := true) rfl rfl rfl rfl (fun k hk => hk) ?_
                  refine ops_g (b := true) rfl rfl rfl rfl (fun k hk => ⟨_, rs', hk⟩) ?_
                  refine ops_g (v := .bool false) (b := true) rfl rfl rfl rfl (fun k hk => say_ne_no (by omega) hk) ?_
                  refine ops_g (b := false) rfl rfl rfl rfl (fun k hk => hk) ?_
                  refine ops_q rfl rfl (fun k hk => hk) ?_
                  refine cw_false rfl (cw_skip ?_)
                  refine cw_region rfl ?_
                  exact ⟨t + 1, ⟨rfl, rfl, rfl, rfl, slot_i64 _ _ (by omega) (by omega), trivial⟩, ⟨by omega, _, _, N11, I6, S11, by omega, y11, nvb6⟩, by omega⟩
                · refine ops_q rfl rfl (fun k hk => hk) ?_
                  refine ops_q (v := .bool false) rfl rfl (fun k hk => say_ne_no rfl hk) ?_
                  refine ops_q rfl rfl (fun k hk => hk) ?_
                  refine ops_g (b := false) rfl rfl rfl rfl (fun k hk => hk) ?_
                  refine ops_g (b := false) rfl rfl rfl rfl (fun k hk => ⟨_, rs', hk⟩) ?_
                  refine ops_g (b := false) rfl rfl rfl rfl (fun k hk => hk) ?_
                  refine ops_g (b := false) rfl rfl rfl rfl (fun k hk => ⟨_, rst11, hk⟩) ?_
                  refine ops_g (v := .bool false) (b := false) rfl rfl rfl rfl (fun k hk => say_ne_no hsame hk) ?_
                  refine ops_g (b := false) rfl rfl rfl rfl (fun k hk => hk) ?_
                  refine ops_skip (b := true) rfl rfl rfl ?_
                  refine ops_skip (b := true) rfl rfl rfl ?_
                  refine ops_skip (b := true) rfl rfl rfl ?_
                  refine ops_g (b := false) rfl rfl rfl rfl (fun k hk => hk) ?_
                  refine ops_q rfl rfl (fun k hk => hk) ?_
                  refine ops_q rfl rfl (fun k hk => hk) ?_
                  refine ops_g (b := false) rfl rfl rfl rfl (fun k hk => hk) ?_
                  refine ops_g (b := false) rfl rfl rfl rfl (fun k hk => ⟨_, rl', hk⟩) ?_
                  refine ops_g (v := .bool false) (b := false) rfl rfl rfl rfl (fun k hk => say_ne_no hl0 hk) ?_
                  refine ops_q rfl rfl (fun k hk => hk) ?_
                  refine ops_q rfl rfl (fun k hk => hk) ?_
                  refine ops_g (b := false) rfl rfl rfl rfl (fun k hk => hk) ?_
                  refine ops_g (b := false) rfl rfl rfl rfl (fun k hk => ⟨_, ri', hk⟩) ?_
                  refine ops_g (v := .bool false) (b := false) rfl rfl rfl rfl (fun k hk => say_ne_no hi0 hk) ?_
                  refine ops_q rfl rfl (fun k hk => hk) ?_
                  refine ops_q rfl rfl (fun k hk => hk) ?_
                  refine ops_g (b := false) rfl rfl rfl rfl (fun k hk => hk) ?_
                  refine ops_g (b := false) rfl rfl rfl rfl (fun k hk => ⟨_, rst11, hk⟩) ?_
                  refine ops_g (v := .bool false) (b := false) rfl rfl rfl rfl (fun k hk => say_eq_no (by omega) hk) ?_
                  refine ops_g (b := false) rfl rfl rfl rfl (fun k hk => hk) ?_
                  refine ops_skip (b := true) rfl rfl rfl ?_
                  refine ops_skip (b := true) rfl rfl rfl ?_
                  refine ops_skip (b := true) rfl rfl rfl ?_
                  refine ops_g (b := false) rfl rfl rfl rfl (fun k hk => hk) ?_
                  refine ops_q rfl rfl (fun k hk => hk) ?_
                  refine cw_false rfl (cw_skip ?_)
                  refine cw_region rfl ?_
                  exact ⟨t + 1, ⟨rfl, rfl, rfl, rfl, slot_i64 _ _ (by omega) (by omega), trivial⟩, ⟨by omega, _, _, N11, I6, S11, by omega, y11, nvb6⟩, by omega⟩
              · refine ops_q rfl rfl (fun k hk => hk) ?_
                refine ops_q (v := .bool false) rfl rfl (fun k hk => say_ne_no rfl hk) ?_
                refine ops_q rfl rfl (fun k hk => hk) ?_
                refine ops_g (b := false) rfl rfl rfl rfl (fun k hk => hk) ?_
                refine ops_g (b := false) rfl rfl rfl rfl (fun k hk => ⟨_, rs', hk⟩) ?_
                refine ops_g (b := false) rfl rfl rfl rfl (fun k hk => hk) ?_
                refine ops_g (b := false) rfl rfl rfl rfl (fun k hk => ⟨_, rst11, hk⟩) ?_
                refine ops_g (v := .bool true) (b := false) rfl rfl rfl rfl (fun k hk => say_ne hsame hk) ?_
                refine ops_g (b := false) rfl rfl rfl rfl (fun k hk => hk) ?_
                refine ops_g (b := true) rfl rfl rfl rfl (fun k hk => hk) ?_
                refine ops_g (b := true) rfl rfl rfl rfl (fun k hk => ⟨_, rs', hk⟩) ?_
                refine ops_g (v := .bool false) (b := true) rfl rfl rfl rfl (fun k hk => say_ne_no (by omega) hk) ?_
                refine ops_g (b := false) rfl rfl rfl rfl (fun k hk => hk) ?_
                refine ops_q rfl rfl (fun k hk => hk) ?_
                refine ops_q rfl rfl (fun k hk => hk) ?_
                refine ops_g (b := false) rfl rfl rfl rfl (fun k hk => hk) ?_
                refine ops_g (b := false) rfl rfl rfl rfl (fun k hk => ⟨_, rl', hk⟩) ?_
                refine ops_g (v := .bool false) (b := false) rfl rfl rfl rfl (fun k hk => say_ne_no hl0 hk) ?_
                refine ops_q rfl rfl (fun k hk => hk) ?_
                refine ops_q rfl rfl (fun k hk => hk) ?_
                refine ops_g (b := false) rfl rfl rfl rfl (fun k hk => hk) ?_
                refine ops_g (b := false) rfl rfl rfl rfl (fun k hk => ⟨_, ri', hk⟩) ?_
                refine ops_g (v := .bool false) (b := false) rfl rfl rfl rfl (fun k hk => say_ne_no hi0 hk) ?_
                refine ops_q rfl rfl (fun k hk => hk) ?_
                refine ops_q rfl rfl (fun k hk => hk) ?_
                refine ops_g (b := false) rfl rfl rfl rfl (fun k hk => hk) ?_
                refine ops_g (b := false) rfl rfl rfl rfl (fun k hk => ⟨_, rst11, hk⟩) ?_
                refine ops_g (v := .bool false) (b := false) rfl rfl rfl rfl (fun k hk => say_eq_no (by omega) hk) ?_
                refine ops_g (b := false) rfl rfl rfl rfl (fun k hk => hk) ?_
                refine ops_skip (b := true) rfl rfl rfl ?_
                refine ops_skip (b := true) rfl rfl rfl ?_
                refine ops_skip (b := true) rfl rfl rfl ?_
                refine ops_g (b := false) rfl rfl rfl rfl (fun k hk => hk) ?_
                refine ops_q rfl rfl (fun k hk => hk) ?_
                refine cw_false rfl (cw_skip ?_)
                refine cw_region rfl ?_
                exact ⟨t + 1, ⟨rfl, rfl, rfl, rfl, slot_i64 _ _ (by omega) (by omega), trivial⟩, ⟨by omega, _, _, N11, I6, S11, by omega, y11, nvb6⟩, by omega⟩
            refine ops_q rfl rfl (fun k hk => hk) ?_
            refine ops_q rfl rfl (fun k hk => hk) ?_
            refine ops_q rfl rfl (fun k hk => ⟨⟨by omega, by omega⟩, hk⟩) ?_
            refine ops_q rfl rfl (fun k hk => hk) ?_
            refine ops_q rfl rfl (fun k hk => ⟨_, rdo, hk⟩) ?_
            refine ops_q (v := .bool false) rfl rfl (fun k hk => say_eq_no h8' hk) ?_
            refine ops_q rfl rfl (fun k hk => hk) ?_
            refine ops_g (b := false) rfl rfl rfl rfl (fun k hk => hk) ?_
            refine ops_g (b := false) rfl rfl rfl rfl (fun k hk => hk) ?_
            refine ops_g (b := false) rfl rfl rfl rfl (fun k hk => ⟨⟨by omega, by omega⟩, hk⟩) ?_
            refine ops_g (b := false) rfl rfl rfl rfl (fun k hk => hk) ?_
            refine ops_g (b := false) rfl rfl rfl rfl (fun k hk => ⟨_, rdo, hk⟩) ?_
            refine ops_g (v := .bool false) (b := false) rfl rfl rfl rfl (fun k hk => say_eq_no h9' hk) ?_
            refine ops_q rfl rfl (fun k hk => hk) ?_
            refine ops_q rfl rfl (fun k hk => hk) ?_
            refine ops_g (b := false) rfl rfl rfl rfl (fun k hk => hk) ?_
            refine ops_g (b := false) rfl rfl rfl rfl (fun k hk => hk) ?_
            refine ops_g (b := false) rfl rfl rfl rfl (fun k hk => ⟨⟨by omega, by omega⟩, hk⟩) ?_
            refine ops_g (b := false) rfl rfl rfl rfl (fun k hk => hk) ?_
            refine ops_g (b := false) rfl rfl rfl rfl (fun k hk => ⟨_, rdo, hk⟩) ?_
            refine ops_g (v := .bool false) (b := false) rfl rfl rfl rfl (fun k hk => say_eq_no h0' hk) ?_
            refine ops_q rfl rfl (fun k hk => hk) ?_
            refine ops_q rfl rfl (fun k hk => hk) ?_
            refine ops_skip (b := true) rfl rfl rfl ?_
            refine ops_skip (b := true) rfl rfl rfl ?_
            refine ops_skip (b := true) rfl rfl rfl ?_
            refine ops_skip (b := true) rfl rfl rfl ?_
            refine ops_q rfl rfl (fun k hk => hk) ?_
            refine cw_false rfl (cw_skip ?_)
            refine cw_seq (cw_region rfl ?_)
            conv => whnf
            refine ⟨_, rfl, _, look_fn n N8.at_ hwk, ?_⟩
            obtain ⟨w', hw', h56', hs'⟩ := S6
            have ho' := I6.ok (List.mem_of_getElem? hw')
            have elk' : lookS W.1 n = (w', 0) := by rw [hn]; exact look_at hw' ho'.st
            have hk' := keysOk_get N8.at_.keys hw'
            rw [elk']
            rintro _ h9 ⟨rfl, x9⟩
            conv => whnf
            intro h10 n10
            conv => whnf
            refine store_wk (a := zeroW) n10.blk zeroW_key hk' ?_
            intro h11 w11
            have z10 := n10.size
            have z11 := w11.size
            have x911 : ExtH h9 h11 := ⟨by omega, fun b hb => by rw [w11.block b (by omega), n10.block b hb]⟩
            have N11 := (N8.more x9).more x911
            have y11 := x911.blk (x9.blk y8)
            have rst11 := y11.rd (o := 1) (v := .int .i64 w.st) rfl
            have rs' := w11.new.rd (o := 1) (v := .int .i64 w'.st) rfl
            have rl' := w11.new.rd (wkC_get_ld hk')
            have ri' := w11.new.rd (wkC_get_id hk')
            have hl0 := ho'.calm (by omega)
            have hi0 := ho'.still (by omega)
            have S11 : Shut W.1 i w.st := ⟨w', hw', h56', hs'⟩
            clear n10 w11
            conv => whnf
            refine cw_seq (cw_region rfl ?_)
            by_cases hsame : w'.st = w.st
            · by_cases h6' : w.st = 6
              · refine ops_q rfl rfl (fun k hk => hk) ?_
                refine ops_q (v := .bool false) rfl rfl (fun k hk => say_ne_no rfl hk) ?_
                refine ops_q rfl rfl (fun k hk => hk) ?_
                refine ops_g (b := false) rfl rfl rfl rfl (fun k hk => hk) ?_
                refine ops_g (b := false) rfl rfl rfl rfl (fun k hk => ⟨_, rs', hk⟩) ?_
                refine ops_g (b := false) rfl rfl rfl rfl (fun k hk => hk) ?_
                refine ops_g (b := false) rfl rfl rfl rfl (fun k hk => ⟨_, rst11, hk⟩) ?_
                refine ops_g (v := .bool false) (b := false) rfl rfl rfl rfl (fun k hk => say_ne_no hsame hk) ?_
                refine ops_g (b := false) rfl rfl rfl rfl (fun k hk => hk) ?_
                refine ops_skip (b := true) rfl rfl rfl ?_
                refine ops_skip (b := true) rfl rfl rfl ?_
                refine ops_skip (b := true) rfl rfl rfl ?_
                refine ops_g (b := false) rfl rfl rfl rfl (fun k hk => hk) ?_
                refine ops_q rfl rfl (fun k hk => hk) ?_
                refine ops_q rfl rfl (fun k hk => hk) ?_
                refine ops_g (b := false) rfl rfl rfl rfl (fun k hk => hk) ?_
                refine ops_g (b := false) rfl rfl rfl rfl (fun k hk => ⟨_, rl', hk⟩) ?_
                refine ops_g (v := .bool false) (b := false) rfl rfl rfl rfl (fun k hk => say_ne_no hl0 hk) ?_
                refine ops_q rfl rfl (fun k hk => hk) ?_
                refine ops_q rfl rfl (fun k hk => hk) ?_
                refine ops_g (b := false) rfl rfl rfl rfl (fun k hk => hk) ?_
                refine ops_g (b := false) rfl rfl rfl rfl (fun k hk => ⟨_, ri', hk⟩) ?_
                refine ops_g (v := .bool false) (b := false) rfl rfl rfl rfl (fun k hk => say_ne_no hi0 hk) ?_
                refine ops_q rfl rfl (fun k hk => hk) ?_
                refine ops_q rfl rfl (fun k hk => hk) ?_
                refine ops_g (b := false) rfl rfl rfl rfl (fun k hk => hk) ?_
                refine ops_g (b := false) rfl rfl rfl rfl (fun k hk => ⟨_, rst11, hk⟩) ?_
                refine ops_g (v := .bool true) (b := false) rfl rfl rfl rfl (fun k hk => say_eq (by omega) hk) ?_
                refine ops_g (b := false) rfl rfl rfl rfl (fun k hk => hk) ?_
                refine ops_g (b := true) rfl rfl rfl rfl (fun k hk => hk) ?_
                refine ops_g (b := true) rfl rfl rfl rfl (fun k hk => ⟨_, rs', hk⟩) ?_
                refine ops_g (v := .bool false) (b := true) rfl rfl rfl rfl (fun k hk => say_ne_no (by omega) hk) ?_
                refine ops_g (b := false) rfl rfl rfl rfl (fun k hk => hk) ?_
                refine ops_q rfl rfl (fun k hk => hk) ?_
                refine cw_false rfl (cw_skip ?_)
                refine cw_region rfl ?_
                exact ⟨t + 1, ⟨rfl, rfl, rfl, rfl, slot_i64 _ _ (by omega) (by omega), trivial⟩, ⟨by omega, _, _, N11, I6, S11, by omega, y11, nvb6⟩, by omega⟩
              · refine ops_q rfl rfl (fun k hk => hk) ?_
                refine ops_q (v := .bool false) rfl rfl (fun k hk => say_ne_no rfl hk) ?_
                refine ops_q rfl rfl (fun k hk => hk) ?_
                refine ops_g (b := false) rfl rfl rfl rfl (fun k hk => hk) ?_
                refine ops_g (b := false) rfl rfl rfl rfl (fun k hk => ⟨_, rs', hk⟩) ?_
                refine ops_g (b := false) rfl rfl rfl rfl (fun k hk => hk) ?_
                refine ops_g (b := false) rfl rfl rfl rfl (fun k hk => ⟨_, rst11, hk⟩) ?_
                refine ops_g (v := .bool false) (b := false) rfl rfl rfl rfl (fun k hk => say_ne_no hsame hk) ?_
                refine ops_g (b := false) rfl rfl rfl rfl (fun k hk => hk) ?_
                refine ops_skip (b := true) rfl rfl rfl ?_
                refine ops_skip (b := true) rfl rfl rfl ?_
                refine ops_skip (b := true) rfl rfl rfl ?_
                refine ops_g (b := false) rfl rfl rfl rfl (fun k hk => hk) ?_
                refine ops_q rfl rfl (fun k hk => hk) ?_
                refine ops_q rfl rfl (fun k hk => hk) ?_
                refine ops_g (b := false) rfl rfl rfl rfl (fun k hk => hk) ?_
                refine ops_g (b := false) rfl rfl rfl rfl (fun k hk => ⟨_, rl', hk⟩) ?_
                refine ops_g (v := .bool false) (b := false) rfl rfl rfl rfl (fun k hk => say_ne_no hl0 hk) ?_
                refine ops_q rfl rfl (fun k hk => hk) ?_
                refine ops_q rfl rfl (fun k hk => hk) ?_
                refine ops_g (b := false) rfl rfl rfl rfl (fun k hk => hk) ?_
                refine ops_g (b := false) rfl rfl rfl rfl (fun k hk => ⟨_, ri', hk⟩) ?_
                refine ops_g (v := .bool false) (b := false) rfl rfl rfl rfl (fun k hk => say_ne_no hi0 hk) ?_
                refine ops_q rfl rfl (fun k hk => hk) ?_
                refine ops_q rfl rfl (fun k hk => hk) ?_
                refine ops_g (b := false) rfl rfl rfl rfl (fun k hk => hk) ?_
                refine ops_g (b := false) rfl rfl rfl rfl (fun k hk => ⟨_, rst11, hk⟩) ?_
                refine ops_g (v := .bool false) (b := false) rfl rfl rfl rfl (fun k hk => say_eq_no (by omega) hk) ?_
                refine ops_g (b := false) rfl rfl rfl rfl (fun k hk => hk) ?_
                refine ops_skip (b := true) rfl rfl rfl ?_
                refine ops_skip (b := true) rfl rfl rfl ?_
                refine ops_skip (b := true) rfl rfl rfl ?_
                refine ops_g (b := false) rfl rfl rfl rfl (fun k hk => hk) ?_
                refine ops_q rfl rfl (fun k hk => hk) ?_
                refine cw_false rfl (cw_skip ?_)
                refine cw_region rfl ?_
                exact ⟨t + 1, ⟨rfl, rfl, rfl, rfl, slot_i64 _ _ (by omega) (by omega), trivial⟩, ⟨by omega, _, _, N11, I6, S11, by omega, y11, nvb6⟩, by omega⟩
            · refine ops_q rfl rfl (fun k hk => hk) ?_
              refine ops_q (v := .bool false) rfl rfl (fun k hk => say_ne_no rfl hk) ?_
              refine ops_q rfl rfl (fun k hk => hk) ?_
              refine ops_g (b := false) rfl rfl rfl rfl (fun k hk => hk) ?_
              refine ops_g (b := false) rfl rfl rfl rfl (fun k hk => ⟨_, rs', hk⟩) ?_
              refine ops_g (b := false) rfl rfl rfl rfl (fun k hk => hk) ?_
              refine ops_g (b := false) rfl rfl rfl rfl (fun k hk => ⟨_, rst11, hk⟩) ?_
              refine ops_g (v := .bool true) (b := false) rfl rfl rfl rfl (fun k hk => say_ne hsame hk) ?_
              refine ops_g (b := false) rfl rfl rfl rfl (fun k hk => hk) ?_
              refine ops_g (b := true) rfl rfl rfl rfl (fun k hk => hk) ?_
              refine ops_g (b := true) rfl rfl rfl rfl (fun k hk => ⟨_, rs', hk⟩) ?_
              refine ops_g (v := .bool false) (b := true) rfl rfl rfl rfl (fun k hk => say_ne_no (by omega) hk) ?_
              refine ops_g (b := false) rfl rfl rfl rfl (fun k hk => hk) ?_
              refine ops_q rfl rfl (fun k hk => hk) ?_
              refine ops_q rfl rfl (fun k hk => hk) ?_
              refine ops_g (b := false) rfl rfl rfl rfl (fun k hk => hk) ?_
              refine ops_g (b := false) rfl rfl rfl rfl (fun k hk => ⟨_, rl', hk⟩) ?_
              refine ops_g (v := .bool false) (b := false) rfl rfl rfl rfl (fun k hk => say_ne_no hl0 hk) ?_
              refine ops_q rfl rfl (fun k hk => hk) ?_
              refine ops_q rfl rfl (fun k hk => hk) ?_
              refine ops_g (b := false) rfl rfl rfl rfl (fun k hk => hk) ?_
              refine ops_g (b := false) rfl rfl rfl rfl (fun k hk => ⟨_, ri', hk⟩) ?_
              refine ops_g (v := .bool false) (b := false) rfl rfl rfl rfl (fun k hk => say_ne_no hi0 hk) ?_
              refine ops_q rfl rfl (fun k hk => hk) ?_
              refine ops_q rfl rfl (fun k hk => hk) ?_
              refine ops_g (b := false) rfl rfl rfl rfl (fun k hk => hk) ?_
              refine ops_g (b := false) rfl rfl rfl rfl (fun k hk => ⟨_, rst11, hk⟩) ?_
              refine ops_g (v := .bool false) (b := false) rfl rfl rfl rfl (fun k hk => say_eq_no (by omega) hk) ?_
              refine ops_g (b := false) rfl rfl rfl rfl (fun k hk => hk) ?_
              refine ops_skip (b := true) rfl rfl rfl ?_
              refine ops_skip (b := true) rfl rfl rfl ?_
              refine ops_skip (b := true) rfl rfl rfl ?_
              refine ops_g (b := false) rfl rfl rfl rfl (fun k hk => hk) ?_
              refine ops_q rfl rfl (fun k hk => hk) ?_
              refine cw_false rfl (cw_skip ?_)
              refine cw_region rfl ?_
              exact ⟨t + 1, ⟨rfl, rfl, rfl, rfl, slot_i64 _ _ (by omega) (by omega), trivial⟩, ⟨by omega, _, _, N11, I6, S11, by omega, y11, nvb6⟩, by omega⟩
          · refine cw_no rfl (by show ¬ (t : Int) < _; omega) (cw_exit ?_)
            refine cw_seq (cw_region rfl ?_)
            conv => whnf
            refine ⟨_, rfl, _, send_fn n N5.at_ I, ?_⟩
            rintro _ h6 ⟨rfl, A6, c6⟩
            have N6 := N5.turn A6 (Turned.of_chg c6)
            have es : (sendS ws n).2 = 261 := by rw [hn]; exact send_shut S
            refine ops_q (v := .bool true) rfl rfl (fun k hk => say_eq es hk) ?_
            conv => whnf
            refine ⟨_, rfl, _, awake_fn h6, ?_⟩
            rintro _ h7 ⟨rfl, x7⟩
            conv => whnf
            exact cw_ret ⟨rfl, xa.trans (N6.ext.trans x7)⟩
      · refine ops_q rfl rfl (fun k hk => hk) ?_
        refine ops_q (v := .bool false) rfl rfl (fun k hk => say_ne_no (by rw [elk]) hk) ?_
        refine ops_q rfl rfl (fun k hk => hk) ?_
        refine ops_g (b := false) rfl rfl rfl rfl (fun k hk => hk) ?_
        refine ops_g (b := false) rfl rfl rfl rfl (fun k hk => ⟨_, rst, hk⟩) ?_
        refine ops_g (v := .bool true) (b := false) rfl rfl rfl rfl (fun k hk => say_ne (by omega) hk) ?_
        refine ops_g (b := false) rfl rfl rfl rfl (fun k hk => hk) ?_
        refine ops_g (b := true) rfl rfl rfl rfl (fun k hk => hk) ?_
        refine ops_g (b := true) rfl rfl rfl rfl (fun k hk => ⟨_, rst, hk⟩) ?_
        refine ops_g (v := .bool true) (b := true) rfl rfl rfl rfl (fun k hk => say_ne (by omega) hk) ?_
        refine ops_g (b := false) rfl rfl rfl rfl (fun k hk => hk) ?_
        refine ops_q rfl rfl (fun k hk => hk) ?_
        
        refine cw_true rfl ?_
        refine cw_seq (cw_region rfl ?_)
        conv => whnf
        refine ⟨_, rfl, _, awake_fn h4, ?_⟩
        rintro _ h5 ⟨rfl, x5⟩
        exact cw_ret ⟨rfl, xa.trans (N4.ext.trans x5)⟩
    · refine ops_q rfl rfl (fun k hk => hk) ?_
      refine ops_q (v := .bool true) rfl rfl (fun k hk => say_ne he hk) ?_
      refine ops_q rfl rfl (fun k hk => hk) ?_
      refine ops_skip (b := false) rfl rfl rfl ?_
      refine ops_skip (b := false) rfl rfl rfl ?_
      refine ops_skip (b := false) rfl rfl rfl ?_
      refine ops_skip (b := false) rfl rfl rfl ?_
      refine ops_skipu rfl rfl rfl ?_
      refine ops_skipu rfl rfl rfl ?_
      refine ops_skipu rfl rfl rfl ?_
      refine ops_skip (b := false) rfl rfl rfl ?_
      refine ops_q rfl rfl (fun k hk => hk) ?_
      
      refine cw_true rfl ?_
      refine cw_seq (cw_region rfl ?_)
      conv => whnf
      refine ⟨_, rfl, _, awake_fn h4, ?_⟩
      rintro _ h5 ⟨rfl, x5⟩
      exact cw_ret ⟨rfl, xa.trans (N4.ext.trans x5)⟩
  · refine ⟨_, rfl, _, lived_no wk sl id hl (r.more xa), ?_⟩
    rintro _ h1 ⟨rfl, x1⟩
    conv => whnf
    refine cw_seq (cw_seq (cw_region rfl ?_))
    conv => whnf
    refine ⟨.bool true, fun w => by kernel_rfl, ?_⟩
    refine cw_true rfl ?_
    refine cw_seq (cw_region rfl ?_)
    conv => whnf
    refine ⟨_, rfl, _, awake_fn h1, ?_⟩
    rintro _ h2 ⟨rfl, x2⟩
    exact cw_ret ⟨rfl, (xa.trans x1).trans x2⟩
end Go.Proofs.Ytcmjgkjnnmfijaa
