/-
  The contracts of the document's half, Unhex, Hex and Compare.
-/
import Derived.Test.YtnjimdjojinffaaShaBackL
import Derived.Test.YtnjimdjojinffaaShaOrdL
namespace Go.Proofs.Ytnjimdjojinffaa.Sha
theorem nib_range (c : UInt8) : nib c ≤ 15 ∨ nib c = 16 := by
  have hc : c.toNat < 256 := c.toNat_lt
  unfold nib
  split
  · exact .inl (by omega)
  · split
    · exact .inl (by omega)
    · exact .inr rfl
theorem cmp_drop : ∀ (t : Nat) (l m : List UInt8), l.take t = m.take t → t ≤ l.length → t ≤ m.length → cmp l m = cmp (l.drop t) (m.drop t)
  | 0, l, m, _, _, _ => rfl
  | t + 1, [], m, _, h, _ => by simp at h
  | t + 1, _ :: _, [], _, _, h => by simp at h
  | t + 1, x :: l, y :: m, h, h1, h2 => by
    simp only [List.take_succ_cons, List.cons.injEq] at h
    obtain ⟨rfl, h⟩ := h
    rw [cmp_cons, if_neg (by omega), if_neg (by omega), List.drop_succ_cons, List.drop_succ_cons]
    exact cmp_drop t l m h (by simpa using h1) (by simpa using h2)
theorem cmp_at (t : Nat) (l m : List UInt8) (h : l.take t = m.take t) (h1 : t < l.length) (h2 : t < m.length) :
    cmp l m = if (l.getD t 0).toNat < (m.getD t 0).toNat then -1 else if (m.getD t 0).toNat < (l.getD t 0).toNat then 1 else cmp (l.drop (t + 1)) (m.drop (t + 1)) := by
  rw [cmp_drop t l m h (by omega) (by omega), List.drop_eq_getElem_cons h1, List.drop_eq_getElem_cons h2, cmp_cons]
  rw [List.getD_eq_getElem?_getD, List.getD_eq_getElem?_getD, List.getElem?_eq_getElem h1, List.getElem?_eq_getElem h2]
  rfl
end Go.Proofs.Ytnjimdjojinffaa.Sha
namespace Go.Proofs.Ytnjimdjojinffaa
open Go Vm
set_option maxRecDepth 100000
theorem half_fn (c : UInt8) : FxP Try.prog 47 #[u8v c] (.int .u8 (Sha.nib c : Int)) := by
  intro h
  refine fn_of 14 Try.func47 rfl (by kernel_rfl) rfl (by simp) ?_
  have hc := u8_lt c
  refine cw_seq (cw_region rfl ?_)
  refine cw_seq (cw_seq (cw_region rfl ?_))
  conv => whnf
  refine cw_block ?_
  refine cw_loop (S := Nat) (fun t => [(0, u8v c), (3, .int .i64 (t : Int))]) (fun t h' => t ≤ 16 ∧ h' = h ∧ ∀ i, i < t → Sha.hexc i ≠ c) (fun t => 16 - t) 0 ⟨rfl, rfl, trivial⟩ ⟨by omega, rfl, fun i hi => by omega⟩ ?_
  rintro t h1 ⟨ht, e, hall⟩
  subst h1
  refine cw_seq (cw_seq (cw_region rfl ?_))
  by_cases hlt : t < 16
  · refine cw_yes rfl (by omega) (cw_skip ?_)
    refine cw_seq (cw_block (cw_seq (cw_region rfl ?_)))
    conv => whnf
    refine ⟨Sha.hexc t, ⟨by omega, ?_⟩, ?_⟩
    · rw [show ((t : Int)).toNat = t by omega]
      exact digit t hlt
    conv => whnf
    by_cases he : Sha.hexc t = c
    · refine cw_beq_yes rfl (by rw [he]) ?_
      refine cw_seq (cw_region rfl ?_)
      conv => whnf
      refine cw_ret ⟨?_, rfl⟩
      rw [← he, Sha.nib_hexc t hlt]
      show Value.int .u8 _ = _
      congr 1
      rw [IntKind.wrap_u8]
      omega
    · refine cw_beq_no rfl (fun e => he (UInt8.toNat_inj.1 (by exact_mod_cast e))) (cw_skip ?_)
      refine cw_region rfl ?_
      refine ⟨t + 1, ⟨rfl, slot_i64 _ _ (by omega) (by omega), trivial⟩, ⟨by omega, rfl, fun i hi => ?_⟩, by omega⟩
      by_cases hit : i = t
      · subst hit; exact he
      · exact hall i (by omega)
  · refine cw_no rfl (by omega) (cw_exit ?_)
    have e16 : Sha.nib c = 16 := by
      rcases Sha.nib_range c with h1 | h1
      · exact absurd (Sha.hexc_nib c h1) (hall _ (by omega))
      · exact h1
    refine cw_seq (cw_region rfl ?_)
    refine cw_ret ⟨?_, rfl⟩
    rw [e16]; rfl
theorem runhex_fn (s : List UInt8) (h : Heap) : Fx Try.prog 35 #[.string (bs s)] h fun u h' => ∃ d e, u = .tuple #[.agg (d.map u8v).toArray, .int .i64 e] ∧ unhexR s d e ∧ ExtH h h' := by
  refine fn_of 41 Try.func35 rfl (by kernel_rfl) rfl (by simp) ?_
  refine cw_seq (cw_region rfl ?_)
  conv => whnf
  intro h1 n1
  conv => whnf
  refine cw_seq (cw_region rfl ?_)
  conv => whnf
  intro h2 n2
  have y1 : Blk h1 h.size (List.replicate 32 (u8v 0)) 37 := n1.blk
  have b2 : Blk h2 h1.size (List.replicate 32 (u8v 0)) 37 := n2.blk
  have z1 := n1.size; have z2 := n2.size
  have b1 := n2.ext.blk y1
  have x2 := n1.ext.trans n2.ext
  generalize h1.size = db at *
  clear y1 n2 n1 h1
  refine cw_seq (cw_seq (cw_region rfl ?_))
  conv => whnf
  by_cases hlen : s.length = 64
  · refine cw_bne_no rfl (by show ((s.length : Nat) : Int) = 64; omega) (cw_skip ?_)
    refine cw_seq (cw_seq (cw_region rfl ?_))
    conv => whnf
    refine cw_block ?_
    refine cw_loop (S := Nat) (fun t => [(0, .string (bs s)), (2, .pointer (some ⟨h.size, 0, none⟩)), (4, .pointer (some ⟨db, 0, none⟩)), (5, .int .i64 (t : Int))])
      (fun t h' => t ≤ 32 ∧ Sha.okN s t ∧ Blk h' h.size (List.replicate 32 (u8v 0)) 37 ∧ Blk h' db (ucells s t) 37 ∧ ExtH h h') (fun t => 32 - t) 0 ⟨rfl, rfl, rfl, rfl, trivial⟩
      ⟨by omega, fun i hi => by omega, b1, by simpa [ucells, Sha.unb] using b2, x2⟩ ?_
    clear b1 b2 x2
    rintro t h3 ⟨ht, hok, b1, b2, x3⟩
    refine cw_seq (cw_seq (cw_region rfl ?_))
    by_cases hlt : t < 32
    · refine cw_yes rfl (by omega) (cw_skip ?_)
      refine cw_seq (cw_block ?_)
      have e0 := i64_eq (2 * (t : Int)) (2 * t) (by omega) (by omega)
      have e1 := i64_eq (IntKind.i64.wrap (2 * (t : Int)) + 1) (2 * t + 1) (by omega) (by omega)
      refine cw_seq ?_
      refine cw_drawn (by kernel_rfl) 12 (fun _ => false) (List.range 12) (by kernel_rfl) rfl ?_
      conv => whnf
      refine ⟨s.getD (2 * t) 0, ⟨by omega, ?_⟩, ?_⟩
      · rw [e0, show (((2 * t : Nat) : Int)).toNat = 2 * t by omega]
        exact bs_get s _ (by omega)
      conv => whnf
      refine ⟨_, rfl, _, (half_fn _).q _, ?_⟩
      conv => whnf
      refine ⟨s.getD (2 * t + 1) 0, ⟨by omega, ?_⟩, ?_⟩
      · rw [e1, show (((2 * t + 1 : Nat) : Int)).toNat = 2 * t + 1 by omega]
        exact bs_get s _ (by omega)
      conv => whnf
      refine ⟨_, rfl, _, (half_fn _).q _, ?_⟩
      conv => whnf
      intro h4 x4
      have fin : ¬ Sha.okN s 32 → ∀ {h5 : Heap}, Blk h5 h.size (List.replicate 32 (u8v 0)) 37 → ExtH h h5 → ∃ d e, (Value.tuple #[.agg (List.replicate 32 (u8v 0)).toArray, .int .i64 23] : Value) = .tuple #[.agg (d.map u8v).toArray, .int .i64 e] ∧ unhexR s d e ∧ ExtH h h5 :=
        fun hno {h5} hb5 x5 => ⟨List.replicate 32 0, 23, by simp, ⟨fun hc => absurd hc.2 hno, fun _ => ⟨rfl, rfl⟩⟩, x5⟩
      have c1 := x4.blk b1
      have c2 := x4.blk b2
      have x5 := x3.trans x4
      have z5 := x5.size
      have bad : ¬ (Sha.nib (s.getD (2 * t) 0) ≤ 15 ∧ Sha.nib (s.getD (2 * t + 1) 0) ≤ 15) → ¬ Sha.okN s 32 := fun hb hk => hb (hk t hlt)
      refine cw_seq (cw_seq (cw_region rfl ?_))
      refine ops_q rfl rfl (fun k hk => hk) ?_
      by_cases ha : Sha.nib (s.getD (2 * t) 0) ≤ 15
      · refine ops_q (v := .bool false) rfl rfl (fun k hk => say false (decide_eq_false (by omega)) hk) ?_
        by_cases hb : Sha.nib (s.getD (2 * t + 1) 0) ≤ 15
        · refine cw_no rfl (by omega) (cw_skip ?_)
          have hol := or_half _ _ ha hb
          have hus := ucells_set s t hlt
          generalize hna : Sha.nib (s.getD (2 * t) 0) = na at *
          generalize hnb : Sha.nib (s.getD (2 * t + 1) 0) = nb at *
          refine cw_region rfl ?_
          conv => whnf
          refine ⟨by decide, ?_⟩
          conv => whnf
          refine ⟨⟨by omega, by omega⟩, ?_⟩
          conv => whnf
          refine ⟨_, _, c2, by simp [ucells, Sha.unb_length]; omega, ?_⟩
          intro h6 w6
          replace w6 := w6.cast (l' := ucells s (t + 1)) (by
            rw [← hus]
            exact congr (congrArg (List.set _) (show 0 + ((t : Int)).toNat = t by omega)) (congrArg (Value.int .u8) hol))
          have hne : h.size ≠ db := by omega
          refine cw_region rfl ?_
          refine ⟨t + 1, ⟨rfl, rfl, rfl, slot_i64 _ _ (by omega) (by omega), trivial⟩, ⟨by omega, fun i hi => ?_, w6.blk c1 hne, w6.new, ?_⟩, by omega⟩
          · by_cases hit : i = t
            · subst hit; rw [hna, hnb]; exact ⟨ha, hb⟩
            · exact hok i (by omega)
          · exact ⟨by have := w6.size; omega, fun b hb => by rw [w6.block b (by omega), x5.block b hb]⟩
        · refine cw_yes rfl (by omega) ?_
          refine cw_seq (cw_region rfl ?_)
          conv => whnf
          refine ⟨_, rfl, (List.replicate 32 (u8v 0)).toArray, fun w => by kernel_rfl, ?_⟩
          conv => whnf
          refine ⟨_, _, c1, ⟨by decide, by rfl, by simp [u8v, Value.oneCell']⟩, ?_⟩
          intro h6 w6
          replace w6 := w6.cast (l' := List.replicate 32 (u8v 0)) (by simp [splice])
          refine cw_ret ?_
          conv => whnf
          refine ⟨_, by rfl, w6.new.all, ?_⟩
          exact fin (bad (fun h => hb h.2)) w6.new ⟨by have := w6.size; omega, fun b hb => by rw [w6.block b (by omega), x5.block b hb]⟩
      · refine ops_q (v := .bool true) rfl rfl (fun k hk => say true (decide_eq_true (by omega)) hk) ?_
        conv => whnf
        refine cw_true rfl ?_
        refine cw_seq (cw_region rfl ?_)
        conv => whnf
        refine ⟨_, rfl, (List.replicate 32 (u8v 0)).toArray, fun w => by kernel_rfl, ?_⟩
        conv => whnf
        refine ⟨_, _, c1, ⟨by decide, by rfl, by simp [u8v, Value.oneCell']⟩, ?_⟩
        intro h6 w6
        replace w6 := w6.cast (l' := List.replicate 32 (u8v 0)) (by simp [splice])
        refine cw_ret ?_
        conv => whnf
        refine ⟨_, by rfl, w6.new.all, ?_⟩
        exact fin (bad (fun h => ha h.1)) w6.new ⟨by have := w6.size; omega, fun b hb => by rw [w6.block b (by omega), x5.block b hb]⟩
    · refine cw_no rfl (by omega) (cw_exit ?_)
      have t32 : t = 32 := by omega
      subst t32
      have e32 : ucells s 32 = (Sha.unb s 32).map u8v := by simp [ucells]
      rw [e32] at b2
      refine cw_seq (cw_region rfl ?_)
      conv => whnf
      refine ⟨_, by rw [List.length_map, Sha.unb_length]; rfl, b2.all, ?_⟩
      conv => whnf
      refine ⟨_, _, b1, ⟨by simp [Sha.unb_length], by simp [Sha.unb_length]; rfl, by simp [u8v, Value.oneCell']⟩, ?_⟩
      intro h6 w6
      replace w6 := w6.cast (l' := (Sha.unb s 32).map u8v) (by simp [splice, Sha.unb_length])
      refine cw_ret ?_
      conv => whnf
      refine ⟨_, by rw [List.length_map, Sha.unb_length]; rfl, w6.new.all, ?_⟩
      exact ⟨_, 0, rfl, ⟨fun _ => ⟨rfl, rfl⟩, fun hno => absurd ⟨hlen, hok⟩ hno⟩, ⟨by have := w6.size; have := x3.size; omega, fun b hb => by rw [w6.block b (by omega), x3.block b hb]⟩⟩
  · refine cw_bne_yes rfl (by show ((s.length : Nat) : Int) ≠ 64; omega) ?_
    refine cw_seq (cw_region rfl ?_)
    conv => whnf
    refine ⟨_, by rfl, b2.all, ?_⟩
    conv => whnf
    refine ⟨_, _, b1, ⟨by decide, by rfl, by simp [u8v, Value.oneCell']⟩, ?_⟩
    intro h6 w6
    replace w6 := w6.cast (l' := List.replicate 32 (u8v 0)) (by simp [splice])
    refine cw_ret ?_
    conv => whnf
    refine ⟨_, by rfl, w6.new.all, ?_⟩
    exact ⟨List.replicate 32 0, 23, by simp; rfl, ⟨fun hc => absurd hc.1 hlen, fun _ => ⟨rfl, rfl⟩⟩, ⟨by have := w6.size; have := x2.size; omega, fun b hb => by rw [w6.block b (by omega), x2.block b hb]⟩⟩
theorem bs_append (a b : List UInt8) : bs a ++ bs b = bs (a ++ b) := by
  apply ByteArray.ext
  show (bs a ++ bs b).data = _
  rw [ByteArray.data_append]
  simp [bs]
theorem digit_cut (n : Nat) (hn : n < 16) : ({ data := #[48, 49, 50, 51, 52, 53, 54, 55, 56, 57, 97, 98, 99, 100, 101, 102] } : ByteArray).extract n (n + 1) = bs [Sha.hexc n] := by
  have : ∀ k : Fin 16, (({ data := #[48, 49, 50, 51, 52, 53, 54, 55, 56, 57, 97, 98, 99, 100, 101, 102] } : ByteArray).extract k.val (k.val + 1)).data = (bs [Sha.hexc k.val]).data := by decide +kernel
  exact ByteArray.ext (this ⟨n, hn⟩)
theorem hex_succ (l : List UInt8) (t : Nat) (h : t < l.length) : Sha.hex (l.take (t + 1)) = Sha.hex (l.take t) ++ [Sha.hexc ((l.getD t 0).toNat / 16), Sha.hexc ((l.getD t 0).toNat % 16)] := by
  have e : l.take (t + 1) = l.take t ++ [l[t]] := by rw [List.take_add_one, List.getElem?_eq_getElem h]; rfl
  rw [e]
  unfold Sha.hex
  rw [List.flatMap_append, List.getD_eq_getElem?_getD, List.getElem?_eq_getElem h]
  rfl
theorem rhex_fn (l : List UInt8) (hl : l.length = 32) (h : Heap) : Fx Try.prog 36 #[.agg (l.map u8v).toArray] h fun u h' => u = .string (bs (Sha.hex l)) ∧ ExtH h h' := by
  refine fn_of 33 Try.func36 rfl (by kernel_rfl) rfl (by simp) ?_
  refine cw_seq (cw_region rfl ?_)
  conv => whnf
  intro h1 n1
  refine cw_seq (cw_region rfl ?_)
  refine cw_seq (cw_seq (cw_region rfl ?_))
  conv => whnf
  refine cw_block ?_
  have y1 : Blk h1 h.size (l.map u8v) 37 := n1.blk
  refine cw_loop (S := Nat) (fun t => [(1, .pointer (some ⟨h.size, 0, none⟩)), (3, .string (bs (Sha.hex (l.take t)))), (4, .int .i64 (t : Int))])
    (fun t h' => t ≤ 32 ∧ Blk h' h.size (l.map u8v) 37 ∧ ExtH h h') (fun t => 32 - t) 0 ⟨rfl, rfl, rfl, trivial⟩ ⟨by omega, y1, n1.ext⟩ ?_
  clear y1 n1 h1
  rintro t h1 ⟨ht, y1, x1⟩
  refine cw_seq (cw_seq (cw_region rfl ?_))
  conv => whnf
  by_cases hlt : t < 32
  · refine cw_yes rfl (by omega) (cw_skip ?_)
    have hsucc := hex_succ l t (by omega)
    have hb := u8_lt (l.getD t 0)
    have hrd : rd h1 ⟨h.size, 0 + ((t : Int)).toNat, none⟩ = some (u8v (l.getD t 0)) := y1.rd (by rw [show 0 + ((t : Int)).toNat = t by omega]; exact map_get u8v l t 0 (by omega))
    have hlen := Sha.hex_length (l.take t)
    rw [List.length_take] at hlen
    generalize l.getD t 0 = b at *
    have e1 : (b.toNat : Int) / 2 ^ min (4 : Int).toNat 8 = ((b.toNat / 16 : Nat) : Int) := by
      rw [show min (4 : Int).toNat 8 = 4 from rfl]; simp
    have e2 : IntKind.u8.wrap ((b.toNat : Int) / 2 ^ min (4 : Int).toNat 8 + 1) = ((b.toNat / 16 + 1 : Nat) : Int) := by rw [e1, IntKind.wrap_u8]; omega
    have e3 := and15 b
    have e4 : IntKind.u8.wrap (bits .and .u8 (b.toNat : Int) 15 + 1) = ((b.toNat % 16 + 1 : Nat) : Int) := by rw [e3, IntKind.wrap_u8]; omega
    refine cw_seq (cw_block ?_)
    refine cw_drawn (by kernel_rfl) 23 (fun _ => false) (List.range 23) (by kernel_rfl) rfl ?_
    conv => whnf
    refine ⟨⟨by omega, by show (t : Int) < ((32 : Nat) : Int); omega⟩, ?_⟩
    conv => whnf
    refine ⟨_, hrd, ?_⟩
    conv => whnf
    refine ⟨by decide, ?_⟩
    conv => whnf
    refine ⟨⟨by omega, by show (t : Int) < ((32 : Nat) : Int); omega⟩, ?_⟩
    conv => whnf
    refine ⟨_, hrd, ?_⟩
    conv => whnf
    refine ⟨by decide, ?_⟩
    refine head_q rfl rfl rfl rfl (fun k hk => hk) ?_
    refine head_q (v := .string (bs [Sha.hexc (b.toNat / 16)])) rfl rfl rfl rfl (fun k hk => ⟨⟨?_, ?_, ?_⟩, ?_⟩) ?_
    · show (0 : Int) ≤ (b.toNat : Int) / 2 ^ min (4 : Int).toNat 8
      rw [e1]; omega
    · show (b.toNat : Int) / 2 ^ min (4 : Int).toNat 8 ≤ IntKind.u8.wrap ((b.toNat : Int) / 2 ^ min (4 : Int).toNat 8 + 1)
      rw [e2, e1]; omega
    · show IntKind.u8.wrap ((b.toNat : Int) / 2 ^ min (4 : Int).toNat 8 + 1) ≤ ((16 : Nat) : Int)
      rw [e2]; omega
    · show k (.string (({ data := #[48, 49, 50, 51, 52, 53, 54, 55, 56, 57, 97, 98, 99, 100, 101, 102] } : ByteArray).extract ((b.toNat : Int) / 2 ^ min (4 : Int).toNat 8).toNat (IntKind.u8.wrap ((b.toNat : Int) / 2 ^ min (4 : Int).toNat 8 + 1)).toNat))
      rw [e2, e1, show (((b.toNat / 16 : Nat) : Int)).toNat = b.toNat / 16 by omega, show (((b.toNat / 16 + 1 : Nat) : Int)).toNat = b.toNat / 16 + 1 by omega, digit_cut _ (by omega)]
      exact hk
    conv => whnf
    refine ⟨by show ((Sha.hex (l.take t)).length : Int) + ((1 : Nat) : Int) ≤ _; omega, ?_⟩
    conv => whnf
    refine ⟨⟨by omega, by show (t : Int) < ((32 : Nat) : Int); omega⟩, ?_⟩
    conv => whnf
    refine ⟨_, hrd, ?_⟩
    conv => whnf
    refine ⟨⟨by omega, by show (t : Int) < ((32 : Nat) : Int); omega⟩, ?_⟩
    conv => whnf
    refine ⟨_, hrd, ?_⟩
    refine head_q rfl rfl rfl rfl (fun k hk => hk) ?_
    refine head_q rfl rfl rfl rfl (fun k hk => hk) ?_
    refine head_q (v := .string (bs [Sha.hexc (b.toNat % 16)])) rfl rfl rfl rfl (fun k hk => ⟨⟨?_, ?_, ?_⟩, ?_⟩) ?_
    · show (0 : Int) ≤ bits .and .u8 (b.toNat : Int) 15
      rw [e3]; omega
    · show bits .and .u8 (b.toNat : Int) 15 ≤ IntKind.u8.wrap (bits .and .u8 (b.toNat : Int) 15 + 1)
      rw [e4, e3]; omega
    · show IntKind.u8.wrap (bits .and .u8 (b.toNat : Int) 15 + 1) ≤ ((16 : Nat) : Int)
      rw [e4]; omega
    · show k (.string (({ data := #[48, 49, 50, 51, 52, 53, 54, 55, 56, 57, 97, 98, 99, 100, 101, 102] } : ByteArray).extract (bits .and .u8 (b.toNat : Int) 15).toNat (IntKind.u8.wrap (bits .and .u8 (b.toNat : Int) 15 + 1)).toNat))
      rw [e4, e3, show (((b.toNat % 16 : Nat) : Int)).toNat = b.toNat % 16 by omega, show (((b.toNat % 16 + 1 : Nat) : Int)).toNat = b.toNat % 16 + 1 by omega, digit_cut _ (by omega)]
      exact hk
    refine head_q (v := .string (bs (Sha.hex (l.take (t + 1))))) rfl rfl rfl rfl (fun k hk => ⟨?_, ?_⟩) ?_
    · show (((bs (Sha.hex (l.take t)) ++ bs [Sha.hexc (b.toNat / 16)]).size : Nat) : Int) + ((1 : Nat) : Int) ≤ _
      rw [bs_append, bs_size, List.length_append, List.length_singleton]
      omega
    · show k (.string ((bs (Sha.hex (l.take t)) ++ bs [Sha.hexc (b.toNat / 16)]) ++ bs [Sha.hexc (b.toNat % 16)]))
      rw [bs_append, bs_append, List.append_assoc]
      rw [hsucc] at hk
      exact hk
    intro h2 x2
    refine cw_region rfl ?_
    exact ⟨t + 1, ⟨rfl, rfl, slot_i64 _ _ (by omega) (by omega), trivial⟩, ⟨by omega, x2.blk y1, x1.trans x2⟩, by omega⟩
  · refine cw_no rfl (by omega) (cw_exit ?_)
    have t32 : t = 32 := by omega
    subst t32
    rw [List.take_of_length_le (by omega)]
    refine cw_seq (cw_region rfl ?_)
    exact cw_ret ⟨rfl, x1⟩
theorem rhex_q (l : List UInt8) (hl : l.length = 32) (h : Heap) : FxQ Try.prog 36 #[.agg (l.map u8v).toArray] h (.string (bs (Sha.hex l))) := fun h1 _ => rhex_fn l hl h1
theorem rcompare_fn (l m : List UInt8) (hl : l.length = 32) (hm : m.length = 32) (h : Heap) : Fx Try.prog 37 #[.agg (l.map u8v).toArray, .agg (m.map u8v).toArray] h fun r h' => r = .int .i64 (Sha.cmp l m) ∧ ExtH h h' := by
  refine fn_of 24 Try.func37 rfl (by kernel_rfl) rfl (by simp) ?_
  refine cw_seq (cw_region rfl ?_)
  conv => whnf
  intro h1 n1
  conv => whnf
  intro h2 n2
  have y1 : Blk h2 h.size (l.map u8v) 37 := n2.ext.blk n1.blk
  have y2 : Blk h2 h1.size (m.map u8v) 37 := n2.blk
  have x2 := n1.ext.trans n2.ext
  generalize h1.size = mb at *
  refine cw_seq (cw_seq (cw_region rfl ?_))
  conv => whnf
  refine cw_block ?_
  refine cw_loop (S := Nat) (fun t => [(2, .pointer (some ⟨h.size, 0, none⟩)), (3, .pointer (some ⟨mb, 0, none⟩)), (5, .int .i64 (t : Int))])
    (fun t h' => t ≤ 32 ∧ Blk h' h.size (l.map u8v) 37 ∧ Blk h' mb (m.map u8v) 37 ∧ ExtH h h' ∧ l.take t = m.take t) (fun t => 32 - t) 0 ⟨rfl, rfl, rfl, trivial⟩ ⟨by omega, y1, y2, x2, by simp⟩ ?_
  clear y1 y2 x2 n1 n2 h1 h2
  rintro t h1 ⟨ht, y1, y2, x1, htk⟩
  refine cw_seq (cw_seq (cw_region rfl ?_))
  conv => whnf
  by_cases hlt : t < 32
  · refine cw_yes rfl (by omega) (cw_skip ?_)
    have hat := Sha.cmp_at t l m htk (by omega) (by omega)
    have hsu := take_succ_eq (show t < l.length by omega) (show t < m.length by omega) htk
    have r1 : rd h1 ⟨h.size, 0 + ((t : Int)).toNat, none⟩ = some (u8v (l.getD t 0)) := y1.rd (by rw [show 0 + ((t : Int)).toNat = t by omega]; exact map_get u8v l t 0 (by omega))
    have r2 : rd h1 ⟨mb, 0 + ((t : Int)).toNat, none⟩ = some (u8v (m.getD t 0)) := y2.rd (by rw [show 0 + ((t : Int)).toNat = t by omega]; exact map_get u8v m t 0 (by omega))
    generalize l.getD t 0 = a at *
    generalize m.getD t 0 = b at *
    refine cw_seq (cw_block (cw_seq (cw_seq ?_)))
    refine cw_drawn (by kernel_rfl) 6 (fun _ => false) (List.range 6) (by kernel_rfl) rfl ?_
    conv => whnf
    refine ⟨⟨by omega, by show (t : Int) < ((32 : Nat) : Int); omega⟩, ?_⟩
    conv => whnf
    refine ⟨_, r1, ?_⟩
    conv => whnf
    refine ⟨⟨by omega, by show (t : Int) < ((32 : Nat) : Int); omega⟩, ?_⟩
    conv => whnf
    refine ⟨_, r2, ?_⟩
    conv => whnf
    intro h2 x2
    conv => whnf
    by_cases hab : a.toNat < b.toNat
    · refine cw_yes rfl (by omega) ?_
      refine cw_seq (cw_region rfl ?_)
      refine cw_ret ⟨?_, x1.trans x2⟩
      rw [hat, if_pos hab]
      rfl
    · refine cw_no rfl (by omega) (cw_skip ?_)
      refine cw_seq ?_
      refine cw_drawn (by kernel_rfl) 6 (fun _ => false) (List.range 6) (by kernel_rfl) rfl ?_
      conv => whnf
      refine ⟨⟨by omega, by show (t : Int) < ((32 : Nat) : Int); omega⟩, ?_⟩
      conv => whnf
      refine ⟨_, x2.rd r1, ?_⟩
      conv => whnf
      refine ⟨⟨by omega, by show (t : Int) < ((32 : Nat) : Int); omega⟩, ?_⟩
      conv => whnf
      refine ⟨_, x2.rd r2, ?_⟩
      conv => whnf
      intro h3 x3
      conv => whnf
      have x13 := (x1.trans x2).trans x3
      by_cases hba : b.toNat < a.toNat
      · refine cw_yes rfl (by omega) ?_
        refine cw_seq (cw_region rfl ?_)
        refine cw_ret ⟨?_, x13⟩
        rw [hat, if_neg hab, if_pos hba]
        rfl
      · refine cw_no rfl (by omega) (cw_skip ?_)
        refine cw_region rfl ?_
        exact ⟨t + 1, ⟨rfl, rfl, slot_i64 _ _ (by omega) (by omega), trivial⟩, ⟨by omega, x3.blk (x2.blk y1), x3.blk (x2.blk y2), x13, hsu.2 (UInt8.toNat_inj.1 (by omega))⟩, by omega⟩
  · refine cw_no rfl (by omega) (cw_exit ?_)
    have t32 : t = 32 := by omega
    subst t32
    rw [List.take_of_length_le (by omega), List.take_of_length_le (by omega)] at htk
    refine cw_seq (cw_region rfl ?_)
    refine cw_ret ⟨?_, x1⟩
    rw [(Sha.cmp_zero l m).2 htk]
    rfl
theorem rcompare_q (l m : List UInt8) (hl : l.length = 32) (hm : m.length = 32) (h : Heap) : FxQ Try.prog 37 #[.agg (l.map u8v).toArray, .agg (m.map u8v).toArray] h (.int .i64 (Sha.cmp l m)) :=
  fun h1 _ => rcompare_fn l m hl hm h1
end Go.Proofs.Ytnjimdjojinffaa
