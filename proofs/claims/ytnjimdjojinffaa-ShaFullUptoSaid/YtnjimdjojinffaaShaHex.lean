/-
  The contracts of package sha's Hex, nibble and Unhex.
-/
import Derived.Test.YtnjimdjojinffaaShaRef1
import Derived.Laws.IdiomStrings
import Derived.Laws.BytesArg
import Derived.Laws.Strings
namespace Go.Proofs.Ytnjimdjojinffaa.Sha
def hexc (n : Nat) : UInt8 := [48, 49, 50, 51, 52, 53, 54, 55, 56, 57, 97, 98, 99, 100, 101, 102].getD n 0
def hex (l : List UInt8) : List UInt8 := l.flatMap fun b => [hexc (b.toNat / 16), hexc (b.toNat % 16)]
def nib (c : UInt8) : Nat := if 48 ≤ c.toNat ∧ c.toNat ≤ 57 then c.toNat - 48 else if 97 ≤ c.toNat ∧ c.toNat ≤ 102 then c.toNat - 87 else 16
/-- the first n bytes that a text says -/
def unb (s : List UInt8) : Nat → List UInt8
  | 0 => []
  | n + 1 => unb s n ++ [UInt8.ofNat (nib (s.getD (2 * n) 0) * 16 + nib (s.getD (2 * n + 1) 0))]
def okN (s : List UInt8) (n : Nat) : Prop := ∀ i, i < n → nib (s.getD (2 * i) 0) ≤ 15 ∧ nib (s.getD (2 * i + 1) 0) ≤ 15
theorem unb_length (s : List UInt8) : ∀ n, (unb s n).length = n
  | 0 => rfl
  | n + 1 => by simp [unb, unb_length s n]
theorem hex_length (l : List UInt8) : (hex l).length = 2 * l.length := by
  induction l with
  | nil => rfl
  | cons b l ih => simp only [hex, List.flatMap_cons, List.length_append, List.length_cons, List.length_nil] at *; omega
end Go.Proofs.Ytnjimdjojinffaa.Sha
namespace Go.Proofs.Ytnjimdjojinffaa
open Go Vm
set_option maxRecDepth 100000
def bs (l : List UInt8) : ByteArray := ⟨l.toArray⟩
theorem bs_size (l : List UInt8) : (bs l).size = l.length := rfl
theorem bs_toList (l : List UInt8) : (bs l).toList = l := by
  exact ByteArray.toList_mk l
theorem conv_str {src dst e : TypeId} (hs : Try.prog.underlying src = some (.slice e)) (he : Try.prog.underlying e = some (.int .u8)) (hd : Try.prog.underlying dst = some .string) {h : Heap} {v : Value} {l : List UInt8} (r : RB h v l) :
    RunsV Try.prog (convert src dst v) h fun u h' => u = .string (bs l) ∧ h' = h := by
  intro w hw
  subst hw
  rcases r.cases with ⟨rfl, rfl⟩ | ⟨A, cap, rfl, hc, hm, hr⟩
  · exact ⟨_, w, run_convert_bytes_nil (P := Try.prog) w src e hs he 0 0 dst hd, SameEnv.refl w, rfl, rfl⟩
  · exact ⟨_, w, run_convert_bytes_back (P := Try.prog) w src dst e A cap l hs he hd (fun j hj => by
      rw [cell_eq_rd]
      exact hr j _ (by simp [hj, u8v])), SameEnv.refl w, rfl, rfl⟩
theorem digit (n : Nat) (hn : n < 16) : ({ data := #[48, 49, 50, 51, 52, 53, 54, 55, 56, 57, 97, 98, 99, 100, 101, 102] } : ByteArray)[n]? = some (Sha.hexc n) := by
  have : ∀ k : Fin 16, ({ data := #[48, 49, 50, 51, 52, 53, 54, 55, 56, 57, 97, 98, 99, 100, 101, 102] } : ByteArray)[k.val]? = some (Sha.hexc k.val) := by decide
  exact this ⟨n, hn⟩
theorem and15 (b : UInt8) : bits .and .u8 (b.toNat : Int) 15 = ((b.toNat % 16 : Nat) : Int) := by
  have := and8 b 15
  rw [show ((15 : UInt8).toNat : Int) = 15 from rfl] at this
  rw [this, UInt8.toNat_and]
  congr 1
  exact Nat.and_two_pow_sub_one_eq_mod b.toNat 4
theorem hex_fn (l : List UInt8) (hl : l.length = 32) (h : Heap) : Fx Try.prog 27 #[.agg (l.map u8v).toArray] h fun u h' => u = .string (bs (Sha.hex l)) ∧ ExtH h h' := by
  refine fn_of 23 Try.func27 rfl (by kernel_rfl) rfl (by simp) ?_
  refine cw_seq (cw_region rfl ?_)
  conv => whnf
  intro h1 n1
  refine cw_seq (cw_region rfl ?_)
  conv => whnf
  refine ⟨⟨by decide, by decide, by decide, by decide⟩, ?_⟩
  intro h2 n2
  have z1 := n1.size; have z2 := n2.size
  have o2 : OB h2 (.slice (some ⟨h1.size, 0, none⟩) 0 64) (Sha.hex (l.take 0)) := ⟨by simp [Sha.hex], .inr ⟨h1.size, 64, List.replicate 64 (u8v 0), by simp [Sha.hex], by simpa [Sha.hex] using made8 (n := 64) n2.blk, by simp [Sha.hex], by simp [maxLen], by simp [Sha.hex]⟩⟩
  have b1 : Blk h2 h.size (l.map u8v) 37 := n2.ext.blk n1.blk
  refine cw_seq (cw_seq (cw_region rfl ?_))
  conv => whnf
  refine ⟨_, by simp only [List.length_map]; exact hl, b1.all, ?_⟩
  conv => whnf
  refine cw_block ?_
  refine cw_loop (S := Nat × Value) (fun s => [(3, s.2), (7, .agg (l.map u8v).toArray), (8, .int .i64 (s.1 : Int))])
    (fun s h' => s.1 ≤ 32 ∧ OB h' s.2 (Sha.hex (l.take s.1)) ∧ ExtH h h' ∧ ∀ b, ob s.2 b → h.size ≤ b) (fun s => 32 - s.1) (0, .slice (some ⟨h1.size, 0, none⟩) 0 64) ⟨rfl, rfl, rfl, trivial⟩
    ⟨by simp, o2, n1.ext.trans n2.ext, fun b hb => by rw [ob_slice] at hb; omega⟩ ?_
  clear o2 b1 n2 n1 z1 z2 h1 h2
  rintro ⟨t, v⟩ h1 ⟨ht, o1, x1, f1⟩
  simp only [] at ht o1 f1
  refine cw_seq (cw_region rfl ?_)
  by_cases hlt : t < 32
  · refine cw_seq (cw_yes rfl (by omega) (cw_skip ?_))
    refine cw_seq (cw_block (cw_seq (cw_region rfl ?_)))
    conv => whnf
    refine ⟨⟨by omega, by show (t : Int) < ((32 : Nat) : Int); omega⟩, partk_int (v := u8v (l.getD t 0)) (kd := .u8) rfl rfl ?_ ?_⟩
    · show (l.map u8v).toArray[((t : Int)).toNat * 1]? = _
      rw [List.getElem?_toArray, show ((t : Int)).toNat * 1 = t by omega]
      exact map_get u8v l t 0 (by omega)
    have hb := u8_lt (l.getD t 0)
    have hsucc : Sha.hex (l.take (t + 1)) = Sha.hex (l.take t) ++ [Sha.hexc ((l.getD t 0).toNat / 16), Sha.hexc ((l.getD t 0).toNat % 16)] := by
      have e : l.take (t + 1) = l.take t ++ [l[t]] := by rw [List.take_add_one, List.getElem?_eq_getElem (show t < l.length by omega)]; rfl
      rw [e]
      unfold Sha.hex
      rw [List.flatMap_append, List.getD_eq_getElem?_getD, List.getElem?_eq_getElem (show t < l.length by omega)]
      rfl
    have hle := Sha.hex_length (l.take t)
    generalize l.getD t 0 = b at *
    refine cw_drawn (by kernel_rfl) 8 (fun i => i == 7) (List.range 8) (by kernel_rfl) rfl ?_
    conv => whnf
    refine ⟨by decide, ?_⟩
    conv => whnf
    have e1 : (b.toNat : Int) / 2 ^ min (4 : Int).toNat 8 = ((b.toNat / 16 : Nat) : Int) := by
      rw [show min (4 : Int).toNat 8 = 4 from rfl]; simp
    refine ⟨Sha.hexc (b.toNat / 16), ⟨by show (0 : Int) ≤ (b.toNat : Int) / 2 ^ min (4 : Int).toNat 8; rw [e1]; omega, ?_⟩, ?_⟩
    · show ({ data := #[48, 49, 50, 51, 52, 53, 54, 55, 56, 57, 97, 98, 99, 100, 101, 102] } : ByteArray)[((b.toNat : Int) / 2 ^ min (4 : Int).toNat 8).toNat]? = _
      rw [e1, show (((b.toNat / 16 : Nat) : Int)).toNat = b.toNat / 16 by omega]
      exact digit _ (by omega)
    conv => whnf
    refine ⟨Sha.hexc (b.toNat % 16), ⟨by rw [and15]; omega, ?_⟩, ?_⟩
    · rw [and15, show (((b.toNat % 16 : Nat) : Int)).toNat = b.toNat % 16 by omega]
      exact digit _ (by omega)
    conv => whnf
    intro h2 y2
    refine ⟨_, rfl, #[u8v (Sha.hexc (b.toNat / 16)), u8v (Sha.hexc (b.toNat % 16))], 5, fun w => by kernel_rfl, ?_⟩
    intro h3 n3
    refine ⟨n3.ext.toU _, ?_⟩
    intro h4 y4
    conv => whnf
    intro h5 y5
    have r5 : RB h5 (.slice (some ⟨h2.size, 0, none⟩) 2 2) [Sha.hexc (b.toNat / 16), Sha.hexc (b.toNat % 16)] := ((RB.of_newed n3 rfl rfl (by show 2 ≤ maxLen; decide)).more y4).more y5
    refine ⟨_, rfl, _, append_bytes (ty := 23) (OwnS.more o1 (((y2.trans n3.ext).trans y4).trans y5)) r5 (by simp at hle ⊢; omega), ?_⟩
    rintro v6 h6 ⟨o6, c6, f6⟩
    have z1 := x1.size; have z2 := y2.size; have z3 := n3.size; have z4 := y4.size; have z5 := y5.size; have z6 := c6.size
    refine cw_region rfl ?_
    refine ⟨(t + 1, v6), ⟨rfl, rfl, slot_i64 _ _ (by simp only []; omega) (by simp only []; omega), trivial⟩, ⟨hlt, ?_, ?_, ?_⟩, by show 32 - (t + 1) < 32 - t; omega⟩
    · simp only []
      rw [hsucc]
      exact o6
    · exact ⟨by omega, fun b hb => by rw [c6.block b (by omega) (fun e => by have := f1 b e; omega), y5.block b (by omega), y4.block b (by omega), n3.block b (by omega), y2.block b (by omega), x1.block b hb]⟩
    · intro b hb
      rcases f6 b hb with e | e
      · exact f1 b e
      · omega
  · refine cw_seq (cw_no rfl (by omega) (cw_exit ?_))
    have t32 : t = 32 := by omega
    subst t32
    rw [List.take_of_length_le (by omega)] at o1
    refine cw_seq (cw_region rfl ?_)
    conv => whnf
    refine ⟨_, conv_str rfl rfl rfl o1.r, ?_⟩
    rintro _ h2 ⟨rfl, e⟩
    subst h2
    exact cw_ret ⟨rfl, x1⟩
/-- a test's outcome, as we know it -/
theorem say {k : Value → Prop} {p : Prop} [Decidable p] (b : Bool) (hb : decide p = b) (hk : k (.bool b)) : k (.bool (decide p)) := by rw [hb]; exact hk
theorem nibble_fn (c : UInt8) : FxP Try.prog 46 #[u8v c] (.int .u8 (Sha.nib c : Int)) := by
  intro h
  refine fn_of 22 Try.func46 rfl (by kernel_rfl) rfl (by simp) ?_
  have hc := u8_lt c
  refine cw_seq (cw_region rfl ?_)
  refine cw_seq (cw_block (cw_seq (cw_region rfl ?_)))
  by_cases h1 : 48 ≤ c.toNat
  · refine ops_q rfl rfl (fun k hk => hk) ?_
    refine ops_q (v := .bool true) rfl rfl (fun k hk => say true (decide_eq_true (by omega)) hk) ?_
    by_cases h2 : c.toNat ≤ 57
    · refine cw_yes rfl (by omega) ?_
      refine cw_seq (cw_region rfl ?_)
      conv => whnf
      refine cw_ret ⟨?_, rfl⟩
      show Value.int .u8 _ = _
      congr 1
      have e : Sha.nib c = c.toNat - 48 := by unfold Sha.nib; rw [if_pos (by omega)]
      rw [e, IntKind.wrap_u8]
      omega
    · refine cw_no rfl (by omega) ?_
      refine cw_seq (cw_region rfl ?_)
      by_cases h3 : 97 ≤ c.toNat
      · refine ops_q rfl rfl (fun k hk => hk) ?_
        refine ops_q (v := .bool true) rfl rfl (fun k hk => say true (decide_eq_true (by omega)) hk) ?_
        by_cases h4 : c.toNat ≤ 102
        · refine cw_yes rfl (by omega) ?_
          refine cw_seq (cw_region rfl ?_)
          conv => whnf
          refine cw_ret ⟨?_, rfl⟩
          show Value.int .u8 _ = _
          congr 1
          have e : Sha.nib c = c.toNat - 87 := by unfold Sha.nib; rw [if_neg (by omega), if_pos (by omega)]
          rw [e, IntKind.wrap_u8, IntKind.wrap_u8]
          omega
        · refine cw_no rfl (by omega) (cw_skip ?_)
          have e : Sha.nib c = 16 := by unfold Sha.nib; rw [if_neg (by omega), if_neg (by omega)]
          refine cw_seq (cw_region rfl ?_)
          refine cw_ret ⟨?_, rfl⟩
          rw [e]; rfl
      · refine ops_q rfl rfl (fun k hk => hk) ?_
        refine ops_q (v := .bool false) rfl rfl (fun k hk => say false (decide_eq_false (by omega)) hk) ?_
        conv => whnf
        have e : Sha.nib c = 16 := by unfold Sha.nib; rw [if_neg (by omega), if_neg (by omega)]
        refine cw_false rfl (cw_skip ?_)
        refine cw_seq (cw_region rfl ?_)
        refine cw_ret ⟨?_, rfl⟩
        rw [e]; rfl
  · refine ops_q rfl rfl (fun k hk => hk) ?_
    refine ops_q (v := .bool false) rfl rfl (fun k hk => say false (decide_eq_false (by omega)) hk) ?_
    conv => whnf
    refine cw_false rfl ?_
    refine cw_seq (cw_region rfl ?_)
    by_cases h3 : 97 ≤ c.toNat
    · refine ops_q rfl rfl (fun k hk => hk) ?_
      refine ops_q (v := .bool true) rfl rfl (fun k hk => say true (decide_eq_true (by omega)) hk) ?_
      by_cases h4 : c.toNat ≤ 102
      · refine cw_yes rfl (by omega) ?_
        refine cw_seq (cw_region rfl ?_)
        conv => whnf
        refine cw_ret ⟨?_, rfl⟩
        show Value.int .u8 _ = _
        congr 1
        have e : Sha.nib c = c.toNat - 87 := by unfold Sha.nib; rw [if_neg (by omega), if_pos (by omega)]
        rw [e, IntKind.wrap_u8, IntKind.wrap_u8]
        omega
      · refine cw_no rfl (by omega) (cw_skip ?_)
        have e : Sha.nib c = 16 := by unfold Sha.nib; rw [if_neg (by omega), if_neg (by omega)]
        refine cw_seq (cw_region rfl ?_)
        refine cw_ret ⟨?_, rfl⟩
        rw [e]; rfl
    · refine ops_q rfl rfl (fun k hk => hk) ?_
      refine ops_q (v := .bool false) rfl rfl (fun k hk => say false (decide_eq_false (by omega)) hk) ?_
      conv => whnf
      have e : Sha.nib c = 16 := by unfold Sha.nib; rw [if_neg (by omega), if_neg (by omega)]
      refine cw_false rfl (cw_skip ?_)
      refine cw_seq (cw_region rfl ?_)
      refine cw_ret ⟨?_, rfl⟩
      rw [e]; rfl
theorem bs_get (s : List UInt8) (i : Nat) (h : i < s.length) : (bs s)[i]? = some (s.getD i 0) := by
  have hs : i < (bs s).size := h
  rw [getElem?_pos (bs s) i hs]
  congr 1
  rw [List.getD_eq_getElem?_getD, List.getElem?_eq_getElem h]
  rfl
theorem or_half (a b : Nat) (ha : a ≤ 15) (hb : b ≤ 15) : bits .or .u8 (IntKind.u8.wrap ((a : Int) * 2 ^ min (4 : Int).toNat 8)) (b : Int) = ((UInt8.ofNat (a * 16 + b)).toNat : Int) := by
  have e : IntKind.u8.wrap ((a : Int) * 2 ^ min (4 : Int).toNat 8) = ((a * 16 : Nat) : Int) := by
    rw [show min (4 : Int).toNat 8 = 4 from rfl, IntKind.wrap_u8]; omega
  rw [e, u8_or_nat _ _ (by omega) (by omega), nat_join 4 _ _ (by omega) (by omega)]
  simp
  omega
def ucells (s : List UInt8) (t : Nat) : List Value := (Sha.unb s t).map u8v ++ List.replicate (32 - t) (u8v 0)
theorem ucells_set (s : List UInt8) (t : Nat) (ht : t < 32) : (ucells s t).set t (u8v (UInt8.ofNat (Sha.nib (s.getD (2 * t) 0) * 16 + Sha.nib (s.getD (2 * t + 1) 0)))) = ucells s (t + 1) := by
  unfold ucells
  rw [set_snoc _ (32 - t) _ _ t (by simp [Sha.unb_length]) (by omega)]
  simp [Sha.unb]
  omega
def unhexR (s : List UInt8) (d : List UInt8) (e : Int) : Prop := (s.length = 64 ∧ Sha.okN s 32 → d = Sha.unb s 32 ∧ e = 0) ∧ (¬ (s.length = 64 ∧ Sha.okN s 32) → d = List.replicate 32 0 ∧ e = 23)
theorem unhex_fn (s : List UInt8) (h : Heap) : Fx Try.prog 34 #[.string (bs s)] h fun u h' => ∃ d e, u = .tuple #[.agg (d.map u8v).toArray, .int .i64 e] ∧ unhexR s d e ∧ ExtH h h' := by
  refine fn_of 41 Try.func34 rfl (by kernel_rfl) rfl (by simp) ?_
  refine cw_seq (cw_region rfl ?_)
  conv => whnf
  intro h1 n1
  conv => whnf
  refine cw_seq (cw_region rfl ?_)
  conv => whnf
  intro h2 n2
  have y1 : Blk h1 h.size (List.replicate 32 (u8v 0)) 37 := n1.blk
  have b2 : Blk h2 h1.size (List.replicate 32 (u8v 0)) 37 := n2.blk
  have z1 := n1.size; have z2 := n2.size
  have b1 := n2.ext.blk y1
  have x2 := n1.ext.trans n2.ext
  generalize h1.size = db at *
  clear y1 n2 n1 h1
  refine cw_seq (cw_seq (cw_region rfl ?_))
  conv => whnf
  by_cases hlen : s.length = 64
  · refine cw_bne_no rfl (by show ((s.length : Nat) : Int) = 64; omega) (cw_skip ?_)
    refine cw_seq (cw_seq (cw_region rfl ?_))
    conv => whnf
    refine cw_block ?_
    refine cw_loop (S := Nat) (fun t => [(0, .string (bs s)), (2, .pointer (some ⟨h.size, 0, none⟩)), (4, .pointer (some ⟨db, 0, none⟩)), (12, .int .i64 (t : Int))])
      (fun t h' => t ≤ 32 ∧ Sha.okN s t ∧ Blk h' h.size (List.replicate 32 (u8v 0)) 37 ∧ Blk h' db (ucells s t) 37 ∧ ExtH h h') (fun t => 32 - t) 0 ⟨rfl, rfl, rfl, rfl, trivial⟩
      ⟨by omega, fun i hi => by omega, b1, by simpa [ucells, Sha.unb] using b2, x2⟩ ?_
    clear b1 b2 x2
    rintro t h3 ⟨ht, hok, b1, b2, x3⟩
    refine cw_seq (cw_region rfl ?_)
    by_cases hlt : t < 32
    · refine cw_seq (cw_yes rfl (by omega) (cw_skip ?_))
      refine cw_seq (cw_block (cw_seq (cw_region rfl ?_)))
      have e0 := i64_eq (2 * (t : Int)) (2 * t) (by omega) (by omega)
      have e1 := i64_eq (IntKind.i64.wrap (2 * (t : Int)) + 1) (2 * t + 1) (by omega) (by omega)
      refine cw_seq ?_
      refine cw_drawn (by kernel_rfl) 12 (fun _ => false) (List.range 12) (by kernel_rfl) rfl ?_
      conv => whnf
      refine ⟨s.getD (2 * t) 0, ⟨by omega, ?_⟩, ?_⟩
      · rw [e0, show (((2 * t : Nat) : Int)).toNat = 2 * t by omega]
        exact bs_get s _ (by omega)
      conv => whnf
      refine ⟨_, rfl, _, (nibble_fn _).q _, ?_⟩
      conv => whnf
      refine ⟨s.getD (2 * t + 1) 0, ⟨by omega, ?_⟩, ?_⟩
      · rw [e1, show (((2 * t + 1 : Nat) : Int)).toNat = 2 * t + 1 by omega]
        exact bs_get s _ (by omega)
      conv => whnf
      refine ⟨_, rfl, _, (nibble_fn _).q _, ?_⟩
      conv => whnf
      intro h4 x4
      have fin : ¬ Sha.okN s 32 → ∀ {h5 : Heap}, Blk h5 h.size (List.replicate 32 (u8v 0)) 37 → ExtH h h5 → ∃ d e, (Value.tuple #[.agg (List.replicate 32 (u8v 0)).toArray, .int .i64 23] : Value) = .tuple #[.agg (d.map u8v).toArray, .int .i64 e] ∧ unhexR s d e ∧ ExtH h h5 :=
        fun hno {h5} hb5 x5 => ⟨List.replicate 32 0, 23, by simp, ⟨fun hc => absurd hc.2 hno, fun _ => ⟨rfl, rfl⟩⟩, x5⟩
      have c1 := x4.blk b1
      have c2 := x4.blk b2
      have x5 := x3.trans x4
      have z5 := x5.size
      have bad : ¬ (Sha.nib (s.getD (2 * t) 0) ≤ 15 ∧ Sha.nib (s.getD (2 * t + 1) 0) ≤ 15) → ¬ Sha.okN s 32 := fun hb hk => hb (hk t hlt)
      refine cw_seq (cw_seq (cw_region rfl ?_))
      refine ops_q rfl rfl (fun k hk => hk) ?_
      by_cases ha : Sha.nib (s.getD (2 * t) 0) ≤ 15
      · refine ops_q (v := .bool false) rfl rfl (fun k hk => say false (decide_eq_false (by omega)) hk) ?_
        by_cases hb : Sha.nib (s.getD (2 * t + 1) 0) ≤ 15
        · refine cw_no rfl (by omega) (cw_skip ?_)
          have hol := or_half _ _ ha hb
          have hus := ucells_set s t hlt
          generalize hna : Sha.nib (s.getD (2 * t) 0) = na at *
          generalize hnb : Sha.nib (s.getD (2 * t + 1) 0) = nb at *
          refine cw_region rfl ?_
          conv => whnf
          refine ⟨by decide, ?_⟩
          conv => whnf
          refine ⟨⟨by omega, by omega⟩, ?_⟩
          conv => whnf
          refine ⟨_, _, c2, by simp [ucells, Sha.unb_length]; omega, ?_⟩
          intro h6 w6
          replace w6 := w6.cast (l' := ucells s (t + 1)) (by
            rw [← hus]
            exact congr (congrArg (List.set _) (show 0 + ((t : Int)).toNat = t by omega)) (congrArg (Value.int .u8) hol))
          have hne : h.size ≠ db := by omega
          refine cw_region rfl ?_
          refine ⟨t + 1, ⟨rfl, rfl, rfl, slot_i64 _ _ (by omega) (by omega), trivial⟩, ⟨by omega, fun i hi => ?_, w6.blk c1 hne, w6.new, ?_⟩, by omega⟩
          · by_cases hit : i = t
            · subst hit; rw [hna, hnb]; exact ⟨ha, hb⟩
            · exact hok i (by omega)
          · exact ⟨by have := w6.size; omega, fun b hb => by rw [w6.block b (by omega), x5.block b hb]⟩
        · refine cw_yes rfl (by omega) ?_
          refine cw_seq (cw_region rfl ?_)
          conv => whnf
          refine ⟨_, rfl, (List.replicate 32 (u8v 0)).toArray, fun w => by kernel_rfl, ?_⟩
          conv => whnf
          refine ⟨_, _, c1, ⟨by decide, by rfl, by simp [u8v, Value.oneCell']⟩, ?_⟩
          intro h6 w6
          replace w6 := w6.cast (l' := List.replicate 32 (u8v 0)) (by simp [splice])
          refine cw_ret ?_
          conv => whnf
          refine ⟨_, by rfl, w6.new.all, ?_⟩
          exact fin (bad (fun h => hb h.2)) w6.new ⟨by have := w6.size; omega, fun b hb => by rw [w6.block b (by omega), x5.block b hb]⟩
      · refine ops_q (v := .bool true) rfl rfl (fun k hk => say true (decide_eq_true (by omega)) hk) ?_
        conv => whnf
        refine cw_true rfl ?_
        refine cw_seq (cw_region rfl ?_)
        conv => whnf
        refine ⟨_, rfl, (List.replicate 32 (u8v 0)).toArray, fun w => by kernel_rfl, ?_⟩
        conv => whnf
        refine ⟨_, _, c1, ⟨by decide, by rfl, by simp [u8v, Value.oneCell']⟩, ?_⟩
        intro h6 w6
        replace w6 := w6.cast (l' := List.replicate 32 (u8v 0)) (by simp [splice])
        refine cw_ret ?_
        conv => whnf
        refine ⟨_, by rfl, w6.new.all, ?_⟩
        exact fin (bad (fun h => ha h.1)) w6.new ⟨by have := w6.size; omega, fun b hb => by rw [w6.block b (by omega), x5.block b hb]⟩
    · refine cw_seq (cw_no rfl (by omega) (cw_exit ?_))
      have t32 : t = 32 := by omega
      subst t32
      have e32 : ucells s 32 = (Sha.unb s 32).map u8v := by simp [ucells]
      rw [e32] at b2
      refine cw_seq (cw_region rfl ?_)
      conv => whnf
      refine ⟨_, by rw [List.length_map, Sha.unb_length]; rfl, b2.all, ?_⟩
      conv => whnf
      refine ⟨_, _, b1, ⟨by simp [Sha.unb_length], by simp [Sha.unb_length]; rfl, by simp [u8v, Value.oneCell']⟩, ?_⟩
      intro h6 w6
      replace w6 := w6.cast (l' := (Sha.unb s 32).map u8v) (by simp [splice, Sha.unb_length])
      refine cw_ret ?_
      conv => whnf
      refine ⟨_, by rw [List.length_map, Sha.unb_length]; rfl, w6.new.all, ?_⟩
      exact ⟨_, 0, rfl, ⟨fun _ => ⟨rfl, rfl⟩, fun hno => absurd ⟨hlen, hok⟩ hno⟩, ⟨by have := w6.size; have := x3.size; omega, fun b hb => by rw [w6.block b (by omega), x3.block b hb]⟩⟩
  · refine cw_bne_yes rfl (by show ((s.length : Nat) : Int) ≠ 64; omega) ?_
    refine cw_seq (cw_region rfl ?_)
    conv => whnf
    refine ⟨_, by rfl, b2.all, ?_⟩
    conv => whnf
    refine ⟨_, _, b1, ⟨by decide, by rfl, by simp [u8v, Value.oneCell']⟩, ?_⟩
    intro h6 w6
    replace w6 := w6.cast (l' := List.replicate 32 (u8v 0)) (by simp [splice])
    refine cw_ret ?_
    conv => whnf
    refine ⟨_, by rfl, w6.new.all, ?_⟩
    exact ⟨List.replicate 32 0, 23, by simp; rfl, ⟨fun hc => absurd hc.1 hlen, fun _ => ⟨rfl, rfl⟩⟩, ⟨by have := w6.size; have := x2.size; omega, fun b hb => by rw [w6.block b (by omega), x2.block b hb]⟩⟩
end Go.Proofs.Ytnjimdjojinffaa
