/-
  What the texts of the flags hold that the tool's key, frames and hello need.
  Package wire's fresh, short, PutUint, and the document's Uint: a number's bytes.
    Numbers' bytes, and keys: the program's and the document's.
    The document's keys.
-/
import Derived.Test.YthigegabdbkhiaaGreatDoorJ6
import Derived.Test.YthigegabdbkhiaaGreatDoorJ8
import Derived.Laws.CopyRow
import Derived.Laws.IdiomCopy
import Derived.Laws.Small
namespace Go.Proofs.YthigegabdbkhiaaGreatDoor
open Go Vm
set_option maxRecDepth 100000
set_option linter.unusedVariables false
set_option linter.unusedSimpArgs false
theorem Vm.Fx.of_calls {P : Program} {f : FuncId} {args : Array Value} {h : Heap} {R : Value → Heap → Prop} (hp : plain P f = true)
    (H : ∀ w, w.heap = h → Calls P f args w (fun e w' => ∃ v, e = .returned v ∧ SameEnv w w' ∧ R v w'.heap)) : Fx P f args h R := .inl ⟨hp, H⟩
theorem ext_below {w w' : World} (b : RowKit.Below w.heap.size w w') : SameEnv w w' ∧ ExtH w.heap w'.heap := ⟨⟨b.os, b.tape, b.output⟩, b.size, b.block⟩
theorem rd_more {h h' : Heap} (e : ExtH h h') {a : Addr} {v : Value} (r : rd h a = some v) : rd h' a = some v := (e.chg (S := fun _ => False)).rd r (fun e => e)
theorem bs_data (s : List UInt8) : (bs s).data.toList = s := by simp [bs]
structure Tl where
  s : Int
  m : Int
  r : Int
def tlC (t : Tl) : List Value := [.int .i64 t.s, .int .i64 t.m, .int .i64 t.r]
def mayS (t : Tl) : Bool := decide (t.s ≥ 1) && decide (t.s ≤ 64) && decide (t.m ≥ 1) && decide (t.m ≤ 4096) && decide (t.r ≥ 1) && decide (t.r ≤ 4194304)
theorem may_fn (t : Tl) (h : Heap) : Fx Tryz.prog 27 #[.agg (tlC t).toArray] h fun u h' => u = .bool (mayS t) ∧ ExtH h h' := by
  refine fn_of 31 Tryz.func27 rfl (by kernel_rfl) rfl (by simp) ?_
  refine cw_seq (cw_region rfl ?_)
  conv => whnf
  intro h1 n1
  conv => whnf
  have y1 : Blk h1 h.size (tlC t) 27 := n1.blk
  unfold mayS
  refine cw_seq (cw_go rfl ?_)
  repeat' ((conv => whnf); first | refine ⟨_, Blk.rd ‹Blk _ _ _ _› rfl, ?_⟩ | refine ⟨_, rd_up ‹ExtH _ _› (Blk.rd ‹Blk _ _ _ _› rfl), ?_⟩ | refine And.intro ⟨by omega, by omega⟩ ?_ | refine say_i (by omega) ?_ | refine say_u8 (by omega) ?_ | refine say_u64 (by omega) ?_ | refine say_len ?_ | refine say_at ⟨by omega, by omega⟩ ?_ | refine say_to (by omega) (by omega) ?_ | refine say_from (by omega) (by omega) ?_ | refine say_t (by omega) ?_ | refine say_f (by omega) ?_ | refine say_d (fun _ => ?_) (fun _ => ?_))
  all_goals exact cw_ret ⟨by simp [one, *], n1.ext⟩
theorem rmay_fn (t : Tl) (h : Heap) : Fx Tryz.prog 32 #[.agg (tlC t).toArray] h fun u h' => u = .bool (mayS t) ∧ ExtH h h' := by
  refine fn_of 31 Tryz.func32 rfl (by kernel_rfl) rfl (by simp) ?_
  refine cw_seq (cw_region rfl ?_)
  conv => whnf
  intro h1 n1
  conv => whnf
  have y1 : Blk h1 h.size (tlC t) 27 := n1.blk
  unfold mayS
  refine cw_seq (cw_go rfl ?_)
  repeat' ((conv => whnf); first | refine ⟨_, Blk.rd ‹Blk _ _ _ _› rfl, ?_⟩ | refine ⟨_, rd_up ‹ExtH _ _› (Blk.rd ‹Blk _ _ _ _› rfl), ?_⟩ | refine And.intro ⟨by omega, by omega⟩ ?_ | refine say_i (by omega) ?_ | refine say_u8 (by omega) ?_ | refine say_u64 (by omega) ?_ | refine say_len ?_ | refine say_at ⟨by omega, by omega⟩ ?_ | refine say_to (by omega) (by omega) ?_ | refine say_from (by omega) (by omega) ?_ | refine say_t (by omega) ?_ | refine say_f (by omega) ?_ | refine say_d (fun _ => ?_) (fun _ => ?_))
  all_goals exact cw_ret ⟨by simp [one, *], n1.ext⟩
theorem getD_drop (s : List UInt8) (i : Nat) (h : i < s.length) : s.drop i = s.getD i 0 :: s.drop (i + 1) := by
  rw [List.drop_eq_getElem_cons h, List.getD_eq_getElem?_getD, List.getElem?_eq_getElem h]; rfl
theorem u8_int (c : UInt8) : (c.toNat : Int) < 256 := by have := c.toNat_lt; omega
def strv (s : List UInt8) : Value := .string (bs s)
/-- texts that are read -/
def RT (h : Heap) (v : Value) (l : List (List UInt8)) : Prop := Vm.Src h 1 v l.length (l.map strv)
theorem RT.more {h h' : Heap} {v : Value} {l : List (List UInt8)} (r : RT h v l) (e : ExtH h h') : RT h' v l := Vm.Src.more r e
theorem RT.fix {h : Heap} {v : Value} {l : List (List UInt8)} (r : RT h v l) : ∃ a c, v = .slice a l.length c ∧ l.length ≤ maxLen := by
  obtain ⟨a, c, e, h1, h2⟩ := Vm.Src.form r
  exact ⟨a, c, e, by omega⟩
theorem RT.get {h : Heap} {a : Option Addr} {n c : Nat} {l : List (List UInt8)} (r : RT h (.slice a n c) l) (t : Nat) (hlt : t < l.length) : ∃ b o, a = some ⟨b, o, none⟩ ∧ rd h ⟨b, o + t, none⟩ = some (strv (l.getD t [])) := by
  rcases r.2 with ⟨h1, h2⟩ | ⟨A, cap, h1, hc, hm, hr⟩
  · omega
  · injection h1 with h1
    have hne : l.map strv ≠ [] := by intro e; simp at e; subst e; simp at hlt
    have hs := hr.spot hne
    rw [hs, rdA_plain] at hr
    refine ⟨A.block, A.off, by rw [← hs]; exact h1, hr t _ ?_⟩
    rw [List.getElem?_map, List.getElem?_eq_getElem hlt, List.getD_eq_getElem?_getD, List.getElem?_eq_getElem hlt]
    rfl
def tz : Tl := ⟨0, 0, 0⟩
theorem infoInt : (Tryz.prog.info? 3).map (fun i => (i.zero, i.size, i.bytes)) = some (some (.int .i64 0), 1, 8) := by kernel_rfl
theorem drop_getD {α : Type} (l : List α) (t : Nat) (d : α) (h : t < l.length) : l.drop t = l.getD t d :: l.drop (t + 1) := by
  rw [List.drop_eq_getElem_cons h, List.getD_eq_getElem?_getD, List.getElem?_eq_getElem h]; rfl
theorem store_tl {h : Heap} {b : Nat} {t u : Tl} {K : Heap → Prop} (hb : Blk h b (tlC t) 27) (H : ∀ h', Wrote h h' b (tlC u) 27 → K h') :
    ∃ l ty, Blk h b l ty ∧ (0 + (tlC u).toArray.size ≤ l.length ∧ (tlC u).toArray.size = 3 ∧ ∀ x ∈ (tlC u).toArray.toList, x.oneCell' = true) ∧ ∀ h', Wrote h h' b (splice l 0 (tlC u).toArray.toList) ty → K h' :=
  ⟨_, _, hb, ⟨by show 3 ≤ 3; decide, rfl, by simp [tlC, Value.oneCell']⟩, fun h' w => H h' (w.cast (by rfl))⟩
theorem info_parts {o : Option TypeInfo} {a : Option Value} {b c : Nat} (h : o.map (fun i => (i.zero, i.size, i.bytes)) = some (a, b, c)) : ∃ i, o = some i ∧ i.zero = a ∧ i.size = b ∧ i.bytes = c := by
  cases o with
  | none => simp at h
  | some i =>
    simp only [Option.map_some, Option.some.injEq, Prod.mk.injEq] at h
    exact ⟨i, rfl, h⟩
end Go.Proofs.YthigegabdbkhiaaGreatDoor
namespace Go.Proofs.YthigegabdbkhiaaGreatDoor
open Go Vm
set_option maxRecDepth 100000
set_option linter.unusedVariables false
set_option linter.unusedSimpArgs false
def uvar (n : Nat) : List UInt8 := if h : n < 128 then [UInt8.ofNat n] else UInt8.ofNat (n % 128 + 128) :: uvar (n / 128)
termination_by n
decreasing_by omega
theorem uvar_small {n : Nat} (h : n < 128) : uvar n = [UInt8.ofNat n] := by rw [uvar, dif_pos h]
theorem uvar_big {n : Nat} (h : ¬ n < 128) : uvar n = UInt8.ofNat (n % 128 + 128) :: uvar (n / 128) := by rw [uvar, dif_neg h]
theorem uvar_pos (n : Nat) : 1 ≤ (uvar n).length := by
  by_cases h : n < 128
  · rw [uvar_small h]; exact Nat.le_refl _
  · rw [uvar_big h]; simp
theorem uvar_len : ∀ (k n : Nat), n < 128 ^ (k + 1) → (uvar n).length ≤ k + 1
  | 0, n, h => by rw [uvar_small (by simpa using h)]; exact Nat.le_refl _
  | k + 1, n, h => by
    by_cases h1 : n < 128
    · rw [uvar_small h1]; simp
    · rw [uvar_big h1]
      have := uvar_len k (n / 128) (by rw [Nat.pow_succ] at h; omega)
      simp only [List.length_cons]
      omega
theorem uvar_10 {n : Nat} (h : n < 18446744073709551616) : (uvar n).length ≤ 10 := uvar_len 9 n (Nat.lt_of_lt_of_le h (by decide))
theorem or8 (x y : UInt8) : bits .or .u8 (x.toNat : Int) (y.toNat : Int) = ((x ||| y).toNat : Int) := by
  rw [u8_or_nat _ _ (u8_lt x) (u8_lt y), UInt8.toNat_or]
theorem or128 : ∀ b : Fin 256, (UInt8.ofNat b.val ||| 128) = UInt8.ofNat (b.val % 128 + 128) := by decide
theorem low_byte (n : Nat) : bits .or .u8 (((UInt8.ofNat n).toNat : Int)) 128 = (((UInt8.ofNat (n % 128 + 128)).toNat : Nat) : Int) := by
  have h := or128 ⟨n % 256, by omega⟩
  simp only at h
  have e : UInt8.ofNat n = UInt8.ofNat (n % 256) := by
    apply UInt8.toNat.inj
    simp
  have h2 := or8 (UInt8.ofNat n) 128
  rw [e, h, show n % 256 % 128 = n % 128 by omega] at h2
  rw [e]
  exact h2
theorem copy_bytes {h : Heap} {v x : Value} {l m : List UInt8} {ty : TypeId} (o : OB h v l) (r : RB h x m) (hm : m.length ≤ l.length) :
    RunsV Tryz.prog (Builtin.copy_ #[33, 33] ty #[v, x]) h fun u h' => u = .int .i64 (m.length : Int) ∧ OB h' v (m ++ l.drop m.length) ∧ Chg (ob v) h h' := by
  intro w hw
  subst hw
  have hi : (Tryz.prog.info? 5).map (·.size) = some 1 := by kernel_rfl
  have none_ : m = [] → ∀ d a dl dc sl sc, v = .slice d dl dc → x = .slice a sl sc → Nat.min sl dl = 0 → ∃ u w', (Builtin.copy_ #[33, 33] ty #[v, x]).run Tryz.prog w = .ok u w' ∧ SameEnv w w' ∧ (u = .int .i64 (m.length : Int) ∧ OB w'.heap v (m ++ l.drop m.length) ∧ Chg (ob v) w.heap w'.heap) := by
    rintro rfl d a dl dc sl sc rfl rfl h0
    exact ⟨_, w, run_copy_none (P := Tryz.prog) w _ 33 ty 5 d a dl dc sl sc Tryz.underlying33 hi h0, SameEnv.refl w, rfl, by simpa using o, ⟨Nat.le_refl _, fun _ _ _ => rfl⟩⟩
  obtain ⟨xa, xc, hxe, _⟩ := Vm.Src.form r
  rcases OB.cases o with ⟨hv, hl⟩ | ⟨b, cap, tl, hv, hc, hcm, hb, hlen⟩
  · have hm0 : m = [] := List.eq_nil_of_length_eq_zero (by rw [hl] at hm; simpa using hm)
    exact none_ hm0 none xa 0 0 m.length xc hv hxe (Nat.min_zero _)
  · rcases r.cases with ⟨hx, hm0⟩ | ⟨A, cx, hx, hcx, _, hr⟩
    · exact none_ hm0 _ _ _ _ 0 0 hv hx (Nat.zero_min _)
    · subst hv hx
      have hrun := run_copy_row (P := Tryz.prog) w 33 33 ty 5 b 0 l.length cap A m.length cx (l.map u8v ++ tl).toArray 5 (m.map u8v) Tryz.underlying33 hi hb
        (by rw [List.length_map]; exact (Nat.min_eq_left hm).symm) (fun j u hu => by rw [cell_eq_rd]; exact hr j u hu) (by simp; omega) (one8 m)
      have hw := heap_setRow w b (((l.map u8v ++ tl).toArray.toList.take 0 ++ m.map u8v ++ (l.map u8v ++ tl).toArray.toList.drop (0 + (m.map u8v).length)).toArray) (l.map u8v ++ tl).toArray 5 hb
      have ecells : (l.map u8v ++ tl).toArray.toList.take 0 ++ m.map u8v ++ (l.map u8v ++ tl).toArray.toList.drop (0 + (m.map u8v).length) = (m ++ l.drop m.length).map u8v ++ tl := by
        simp only [List.take_zero, List.nil_append, Nat.zero_add, List.length_map]
        rw [List.drop_append_of_le_length (by simpa using hm), List.map_append, List.map_drop, List.append_assoc]
      refine ⟨_, _, hrun, ⟨rfl, rfl, rfl⟩, by rw [List.length_map]; rfl, ?_, ?_⟩
      · have hn := hw.new
        have hl2 : (m ++ l.drop m.length).length = l.length := by simp; omega
        refine ⟨by simp, .inr ⟨b, cap, tl, by rw [hl2], ?_, by omega, hcm, ?_⟩⟩
        · simp only [ecells] at hn ⊢
          exact hn
        · rw [List.length_append, List.length_map, hl2]; omega
      · exact hw.chg.mono (fun k _ hk => by rw [ob_slice]; exact hk)
theorem info8z : ∃ i, Tryz.prog.info? 5 = some i ∧ i.zero = some (.int .u8 0) ∧ i.size = 1 ∧ i.bytes = 1 := info_parts info8
theorem zeros8 (n : Nat) : (madeCells (Value.int .u8 0).cells n).toList = (List.replicate n (0 : UInt8)).map u8v := by
  simp [madeCells, Value.cells, u8v, Nat.mod_one, List.map_const']
theorem fresh_fn {h : Heap} {v : Value} {l : List UInt8} (r : RB h v l) (room : Nat) (hl : l.length ≤ 1000000000) (hr : room ≤ 1000) :
    Fx Tryz.prog 80 #[v, .int .i64 (room : Int)] h fun u h' => OB h' u l ∧ ExtH h h' ∧ ∀ b, ob u b → h.size ≤ b := by
  refine fn_of 17 Tryz.func80 rfl (by kernel_rfl) rfl (by simp) ?_
  obtain ⟨va, vc, hve, _⟩ := Vm.Src.form r
  subst hve
  refine cw_seq (cw_go rfl ?_)
  conv => whnf
  refine cw_seq (cw_go rfl ?_)
  repeat ((conv => whnf); first | refine ⟨_, Blk.rd ‹Blk _ _ _ _› rfl, ?_⟩ | refine ⟨_, rd_up ‹ExtH _ _› (Blk.rd ‹Blk _ _ _ _› rfl), ?_⟩ | refine And.intro ⟨by omega, by omega⟩ ?_ | refine say_i (by omega) ?_ | refine say_u8 (by omega) ?_ | refine say_u64 (by omega) ?_ | refine say_len ?_ | refine say_at ⟨by omega, by omega⟩ ?_ | refine say_to (by omega) (by omega) ?_ | refine say_from (by omega) (by omega) ?_ | refine say_t (by omega) ?_ | refine say_f (by omega) ?_)
  try (conv => whnf)
  refine ⟨⟨by omega, by omega, ?_, by omega⟩, ?_⟩
  · show ((1 : Nat) : Int) * _ ≤ _; omega
  intro h1 n1
  replace n1 : Newed h h1 (.cells (madeCells (Value.int .u8 0).cells (l.length + room)) 5) := by
    have e : ((l.length : Int) + (room : Int)).toNat * 1 = l.length + room := by omega
    have := n1
    rw [← e]
    exact this
  have o1 : OB h1 (.slice (some ⟨h.size, 0, none⟩) (List.replicate l.length (0 : UInt8)).length (l.length + room)) (List.replicate l.length 0) :=
    OB.of_new (tl := (List.replicate room (0 : UInt8)).map u8v) n1 (by rw [zeros8, ← List.map_append, List.replicate_append_replicate]) (by simp) (by unfold maxLen; omega)
  rw [List.length_replicate] at o1
  conv => whnf
  rw [show ((l.length : Int)).toNat = l.length by omega, show ((l.length : Int) + (room : Int)).toNat = l.length + room by omega]
  refine cw_seq (cw_go rfl ?_)
  conv => whnf
  refine ⟨_, rfl, _, copy_bytes (ty := 3) o1 (r.more n1.ext) (by simp), ?_⟩
  rintro _ h2 ⟨rfl, o2, c2⟩
  have z1 := n1.size
  conv => whnf
  refine cw_seq (cw_go rfl ?_)
  conv => whnf
  refine cw_ret ⟨?_, ⟨by have := c2.size; omega, fun b hb => by rw [c2.block b (by omega) (fun e => by rw [ob_slice] at e; omega), n1.block b hb]⟩, fun b hb => by
    have hb' : ob (.slice (some ⟨h.size, 0, none⟩) l.length (l.length + room)) b := hb
    rw [ob_slice] at hb'; omega⟩
  have e : l ++ (List.replicate l.length (0 : UInt8)).drop l.length = l := by simp
  rw [e] at o2
  exact o2
theorem short_fn {h : Heap} {v : Value} {l : List UInt8} {n : Nat} (o : OB h v l) (hl : l.length ≤ 1000000000) (hn : n < 18446744073709551616) :
    Fx Tryz.prog 79 #[v, .int .u64 (n : Int)] h fun u h' => OB h' u (l ++ uvar n) ∧ Chg (ob v) h h' ∧ ∀ b, ob u b → ob v b ∨ h.size ≤ b := by
  refine fn_of 20 Tryz.func79 rfl (by kernel_rfl) rfl (by simp) ?_
  have hu := uvar_10 hn
  generalize hgoal : l ++ uvar n = out
  have hol : out.length ≤ 1000000010 := by rw [← hgoal, List.length_append]; omega
  obtain ⟨va, vc, hve, _⟩ := Vm.Src.form (OB.r o)
  refine cw_seq (cw_go rfl ?_)
  conv => whnf
  refine cw_seq (cw_block ?_)
  refine cw_loop (S := Value × List UInt8 × Nat) (fun s => [(0, s.1), (1, .int .u64 (s.2.2 : Int))])
    (fun s h' => (∃ a c, s.1 = .slice a s.2.1.length c) ∧ OB h' s.1 s.2.1 ∧ s.2.1 ++ uvar s.2.2 = out ∧ s.2.2 < 18446744073709551616 ∧ Chg (ob v) h h' ∧ ∀ b, ob s.1 b → ob v b ∨ h.size ≤ b) (fun s => s.2.2) (v, l, n) ⟨rfl, rfl, trivial⟩
    ⟨⟨_, _, hve⟩, o, hgoal, hn, ⟨Nat.le_refl _, fun _ _ _ => rfl⟩, fun b hb => .inl hb⟩ ?_
  clear o hgoal
  rintro ⟨x, m, k⟩ h1 ⟨⟨xa, xc, hx⟩, o1, hg, hk, c1, f1⟩
  simp only at hx o1 hg hk f1
  subst hx
  have hml : m.length + (uvar k).length = out.length := by rw [← hg, List.length_append]
  refine cw_seq (cw_seq (cw_go rfl ?_))
  conv => whnf
  by_cases hk1 : k < 128
  · refine say_f (by show ¬ (k : Int) ≥ 128; omega) ?_
    refine cw_false rfl (cw_exit ?_)
    rw [uvar_small hk1] at hg
    refine cw_seq (cw_go rfl ?_)
    conv => whnf
    refine say_w (wrap8_nat k) ?_
    conv => whnf
    refine ⟨_, rfl, #[u8v (UInt8.ofNat k)], 5, fun w => by kernel_rfl, ?_⟩
    conv => whnf
    intro h2 n2
    conv => whnf
    have r2 : RB h2 (.slice (some ⟨h1.size, 0, none⟩) 1 1) [UInt8.ofNat k] := RB.of_newed n2 rfl rfl (by show 1 ≤ maxLen; decide)
    refine ⟨_, rfl, _, append_bytes (ty := 33) (OwnS.more o1 n2.ext) r2 (by simp; omega), ?_⟩
    rintro u h3 ⟨o3, c3, f3⟩
    rw [hg] at o3
    have z1 := c1.size
    have z2 := n2.size
    refine cw_ret ⟨o3, ?_, fun b hb => ?_⟩
    · exact ⟨by have := c3.size; omega, fun b hb hn => by rw [c3.block b (by omega) (fun e => (f1 b e).elim hn (by omega)), n2.block b (by omega), c1.block b hb hn]⟩
    · exact (f3 b hb).elim (fun e => f1 b e) (fun e => .inr (by omega))
  · refine say_t (by show (k : Int) ≥ 128; omega) ?_
    refine cw_true rfl (cw_skip ?_)
    rw [uvar_big hk1] at hg hml
    refine cw_seq (cw_block ?_)
    refine cw_go rfl ?_
    conv => whnf
    refine say_w (wrap8_nat k) ?_
    conv => whnf
    refine say_w (low_byte k) ?_
    conv => whnf
    refine ⟨_, rfl, #[u8v (UInt8.ofNat (k % 128 + 128))], 5, fun w => by kernel_rfl, ?_⟩
    conv => whnf
    intro h2 n2
    conv => whnf
    have r2 : RB h2 (.slice (some ⟨h1.size, 0, none⟩) 1 1) [UInt8.ofNat (k % 128 + 128)] := RB.of_newed n2 rfl rfl (by show 1 ≤ maxLen; decide)
    refine ⟨_, rfl, _, append_bytes (ty := 33) (OwnS.more o1 n2.ext) r2 (by simp; omega), ?_⟩
    rintro u h3 ⟨o3, c3, f3⟩
    have z1 := c1.size
    have z2 := n2.size
    obtain ⟨ua, uc, hue, _⟩ := Vm.Src.form (OB.r o3)
    refine cw_go rfl ?_
    conv => whnf
    refine And.intro (by omega) ?_
    refine say_w (y := ((k / 128 : Nat) : Int)) (by show (k : Int) / 2 ^ 7 = _; omega) ?_
    conv => whnf
    refine ⟨(u, m ++ [UInt8.ofNat (k % 128 + 128)], k / 128), ⟨rfl, rfl, trivial⟩, ⟨⟨_, _, hue⟩, o3, by rw [List.append_assoc]; exact hg, by show k / 128 < _; omega, ?_, fun b hb => ?_⟩, by show k / 128 < k; omega⟩
    · exact ⟨by have := c3.size; omega, fun b hb hn => by rw [c3.block b (by omega) (fun e => (f1 b e).elim hn (by omega)), n2.block b (by omega), c1.block b hb hn]⟩
    · exact (f3 b hb).elim (fun e => f1 b e) (fun e => .inr (by omega))
end Go.Proofs.YthigegabdbkhiaaGreatDoor
namespace Go.Proofs.YthigegabdbkhiaaGreatDoor
open Go Vm
set_option maxRecDepth 100000
set_option linter.unusedVariables false
set_option linter.unusedSimpArgs false
theorem putUint_fn {h : Heap} {v : Value} {l : List UInt8} {n : Nat} (r : RB h v l) (hl : l.length ≤ 1000000000) (hn : n < 18446744073709551616) :
    Fx Tryz.prog 52 #[v, .int .u64 (n : Int)] h fun u h' => OB h' u (l ++ uvar n) ∧ ExtH h h' ∧ ∀ b, ob u b → h.size ≤ b := by
  refine fn_of 9 Tryz.func52 rfl (by kernel_rfl) rfl (by simp) ?_
  refine cw_seq (cw_go rfl ?_)
  conv => whnf
  refine cw_seq (cw_go rfl ?_)
  conv => whnf
  refine ⟨_, rfl, _, fresh_fn r 10 hl (by decide), ?_⟩
  rintro x h1 ⟨o1, x1, f1⟩
  conv => whnf
  refine ⟨_, rfl, _, short_fn o1 hl hn, ?_⟩
  rintro u h2 ⟨o2, c2, f2⟩
  have z1 := x1.size
  refine cw_ret ⟨o2, ⟨by have := c2.size; omega, fun b hb => by rw [c2.block b (by omega) (fun e => by have := f1 b e; omega), x1.block b hb]⟩, fun b hb => (f2 b hb).elim (f1 b) (fun e => by omega)⟩
theorem ext_of_chg {h h1 h2 : Heap} {v : Value} (x : ExtH h h1) (c : Chg (ob v) h1 h2) (f : ∀ b, ob v b → h.size ≤ b) : ExtH h h2 := by
  have z := x.size
  exact ⟨by have := c.size; omega, fun b hb => by rw [c.block b (by omega) (fun e => by have := f b e; omega), x.block b hb]⟩
theorem rUint_fn (n : Nat) (h : Heap) (hn : n < 18446744073709551616) :
    Fx Tryz.prog 85 #[.int .u64 (n : Int)] h fun u h' => OB h' u (uvar n) ∧ ExtH h h' ∧ ∀ b, ob u b → h.size ≤ b := by
  refine fn_of 20 Tryz.func85 rfl (by kernel_rfl) rfl (by simp) ?_
  have hu := uvar_10 hn
  generalize hgoal : uvar n = out
  have hol : out.length ≤ 10 := by rw [← hgoal]; exact hu
  refine cw_seq (cw_go rfl ?_)
  conv => whnf
  refine cw_seq (cw_go rfl ?_)
  conv => whnf
  refine cw_seq (cw_block ?_)
  refine cw_loop (S := Value × List UInt8 × Nat) (fun s => [(3, s.1), (0, .int .u64 (s.2.2 : Int))])
    (fun s h' => (∃ a c, s.1 = .slice a s.2.1.length c) ∧ OB h' s.1 s.2.1 ∧ s.2.1 ++ uvar s.2.2 = out ∧ s.2.2 < 18446744073709551616 ∧ ExtH h h' ∧ ∀ b, ob s.1 b → h.size ≤ b) (fun s => s.2.2) (.slice none 0 0, [], n) ⟨rfl, rfl, trivial⟩
    ⟨⟨_, _, rfl⟩, OB.nil h, hgoal, hn, ExtH.refl h, fun b hb => (ob_nil hb).elim⟩ ?_
  clear hgoal
  rintro ⟨x, m, k⟩ h1 ⟨⟨xa, xc, hx⟩, o1, hg, hk, c1, f1⟩
  simp only at hx o1 hg hk f1
  subst hx
  have hml : m.length + (uvar k).length = out.length := by rw [← hg, List.length_append]
  refine cw_seq (cw_seq (cw_go rfl ?_))
  conv => whnf
  by_cases hk1 : k < 128
  · refine say_f (by show ¬ (k : Int) ≥ 128; omega) ?_
    refine cw_false rfl (cw_exit ?_)
    rw [uvar_small hk1] at hg
    refine cw_seq (cw_go rfl ?_)
    conv => whnf
    refine say_w (wrap8_nat k) ?_
    conv => whnf
    refine ⟨_, rfl, #[u8v (UInt8.ofNat k)], 5, fun w => by kernel_rfl, ?_⟩
    conv => whnf
    intro h2 n2
    conv => whnf
    have r2 : RB h2 (.slice (some ⟨h1.size, 0, none⟩) 1 1) [UInt8.ofNat k] := RB.of_newed n2 rfl rfl (by show 1 ≤ maxLen; decide)
    refine ⟨_, rfl, _, append_bytes (ty := 33) (OwnS.more o1 n2.ext) r2 (by simp; omega), ?_⟩
    rintro u h3 ⟨o3, c3, f3⟩
    rw [hg] at o3
    have z1 := c1.size
    have z2 := n2.size
    refine cw_ret ⟨o3, ext_of_chg (c1.trans n2.ext) c3 f1, fun b hb => (f3 b hb).elim (f1 b) (fun e => by omega)⟩
  · refine say_t (by show (k : Int) ≥ 128; omega) ?_
    refine cw_true rfl (cw_skip ?_)
    rw [uvar_big hk1] at hg hml
    refine cw_block ?_
    refine cw_seq (cw_go rfl ?_)
    conv => whnf
    refine And.intro (by decide) ?_
    refine say_w (y := ((k % 128 : Nat) : Int)) (by show (k : Int).tmod 128 = _; rw [Int.tmod_eq_emod_of_nonneg (by omega)]; omega) ?_
    conv => whnf
    refine say_w (wrap8_nat (k % 128)) ?_
    conv => whnf
    refine say_w (y := ((UInt8.ofNat (k % 128 + 128)).toNat : Int)) (by rw [IntKind.wrap_u8]; simp only [UInt8.toNat_ofNat']; omega) ?_
    conv => whnf
    refine ⟨_, rfl, #[u8v (UInt8.ofNat (k % 128 + 128))], 5, fun w => by kernel_rfl, ?_⟩
    conv => whnf
    intro h2 n2
    conv => whnf
    have r2 : RB h2 (.slice (some ⟨h1.size, 0, none⟩) 1 1) [UInt8.ofNat (k % 128 + 128)] := RB.of_newed n2 rfl rfl (by show 1 ≤ maxLen; decide)
    refine ⟨_, rfl, _, append_bytes (ty := 33) (OwnS.more o1 n2.ext) r2 (by simp; omega), ?_⟩
    rintro u h3 ⟨o3, c3, f3⟩
    have z1 := c1.size
    have z2 := n2.size
    obtain ⟨ua, uc, hue, _⟩ := Vm.Src.form (OB.r o3)
    refine cw_go rfl ?_
    conv => whnf
    refine And.intro (by decide) ?_
    refine say_w (y := ((k / 128 : Nat) : Int)) (by show IntKind.u64.wrap ((k : Int).tdiv 128) = _; rw [IntKind.wrap_u64, Int.tdiv_eq_ediv_of_nonneg (by omega)]; omega) ?_
    conv => whnf
    exact ⟨(u, m ++ [UInt8.ofNat (k % 128 + 128)], k / 128), ⟨rfl, rfl, trivial⟩, ⟨⟨_, _, hue⟩, o3, by rw [List.append_assoc]; exact hg, by show k / 128 < _; omega, ext_of_chg (c1.trans n2.ext) c3 f1, fun b hb => (f3 b hb).elim (f1 b) (fun e => by omega)⟩, by show k / 128 < k; omega⟩
theorem max_int (ts : Array TypeId) (t : TypeId) (a : Int) (h : Heap) : RunsV Tryz.prog (Builtin.max_ ts t #[.int .i64 a, .int .i64 0]) h fun u h' => u = .int .i64 (max a 0) ∧ h' = h := fun w hw =>
  ⟨_, w, run_max_int2 (P := Tryz.prog) w ts t .i64 .i64 a 0, SameEnv.refl w, by congr 1; split <;> omega, hw⟩
def keyB (t : Tl) : List UInt8 := uvar (max t.s 0).toNat ++ uvar (max t.m 0).toNat ++ uvar (max t.r 0).toNat
def tool4 : List UInt8 := [116, 111, 111, 108]
def keyS (t : Tl) : List UInt8 := Sha.tagDig tool4 [keyB t]
theorem keyS_length (t : Tl) : (keyS t).length = 32 := Sha.tagDig_length _ _
structure Tl64 (t : Tl) : Prop where
  s : -9223372036854775808 ≤ t.s ∧ t.s ≤ 9223372036854775807
  m : -9223372036854775808 ≤ t.m ∧ t.m ≤ 9223372036854775807
  r : -9223372036854775808 ≤ t.r ∧ t.r ≤ 9223372036854775807
theorem u64_max {a : Int} (h : a ≤ 9223372036854775807) : IntKind.u64.wrap (max a 0) = (((max a 0).toNat : Nat) : Int) := by rw [IntKind.wrap_u64]; omega
theorem max_lt {a : Int} (h : a ≤ 9223372036854775807) : (max a 0).toNat < 18446744073709551616 := by omega
/-- the number at place i -/
def tn (t : Tl) (i : Nat) : Int := if i = 0 then t.s else if i = 1 then t.m else t.r
def keyN (t : Tl) : Nat → List UInt8
  | 0 => []
  | i + 1 => keyN t i ++ uvar (max (tn t i) 0).toNat
theorem keyN_3 (t : Tl) : keyN t 3 = keyB t := rfl
theorem tn_at (t : Tl) (i : Nat) (h : i < 3) : (tlC t)[i]? = some (.int .i64 (tn t i)) := by
  rcases (show i = 0 ∨ i = 1 ∨ i = 2 by omega) with rfl | rfl | rfl <;> rfl
theorem tn_le {t : Tl} (b : Tl64 t) (i : Nat) : tn t i ≤ 9223372036854775807 := by unfold tn; split; exact b.s.2; split; exact b.m.2; exact b.r.2
theorem keyN_len {t : Tl} (b : Tl64 t) : ∀ i, (keyN t i).length ≤ 10 * i
  | 0 => by simp [keyN]
  | i + 1 => by
    have h1 := keyN_len b i
    have h2 := uvar_10 (max_lt (tn_le b i))
    unfold keyN
    rw [List.length_append]
    omega
theorem store_dig {h : Heap} {b : Nat} {l0 : List Value} {d : List UInt8} {K : Heap → Prop} (hb : Blk h b l0 74) (h0 : l0.length = 32) (hd : d.length = 32) (H : ∀ h', Wrote h h' b (d.map u8v) 74 → K h') :
    ∃ l ty, Blk h b l ty ∧ (0 + (d.map u8v).toArray.size ≤ l.length ∧ (d.map u8v).toArray.size = 32 ∧ ∀ x ∈ (d.map u8v).toArray.toList, x.oneCell' = true) ∧ ∀ h', Wrote h h' b (splice l 0 (d.map u8v).toArray.toList) ty → K h' :=
  ⟨_, _, hb, ⟨by simp; omega, by simp [hd], fun x hx => one8 d x hx⟩, fun h' w => H h' (w.cast (by simp [splice, h0, hd]))⟩
theorem key_fn {t : Tl} (b : Tl64 t) (h : Heap) : Fx Tryz.prog 31 #[.agg (tlC t).toArray] h fun u h' => u = .agg ((keyS t).map u8v).toArray ∧ ExtH h h' := by
  refine fn_of 33 Tryz.func31 rfl (by kernel_rfl) rfl (by simp) ?_
  refine cw_seq (cw_go rfl ?_)
  intro h1 n1
  conv => whnf
  have y1 : Blk h1 h.size (tlC t) 27 := n1.blk
  intro h2 n2
  conv => whnf
  have y2 : Blk h2 h1.size ((List.replicate 32 (0 : UInt8)).map u8v) 74 := n2.blk
  have y12 := n2.ext.blk y1
  have x2 := n1.ext.trans n2.ext
  have z1 := n1.size
  have z2 := n2.size
  refine cw_seq (cw_go rfl ?_)
  conv => whnf
  refine cw_seq (cw_seq (cw_go rfl ?_))
  repeat ((conv => whnf); first | refine ⟨_, Blk.rd ‹Blk _ _ _ _› rfl, ?_⟩ | refine ⟨_, rd_up ‹ExtH _ _› (Blk.rd ‹Blk _ _ _ _› rfl), ?_⟩ | refine And.intro ⟨by omega, by omega⟩ ?_ | refine say_i (by omega) ?_ | refine say_u8 (by omega) ?_ | refine say_u64 (by omega) ?_ | refine say_len ?_ | refine say_at ⟨by omega, by omega⟩ ?_ | refine say_to (by omega) (by omega) ?_ | refine say_from (by omega) (by omega) ?_ | refine say_t (by omega) ?_ | refine say_f (by omega) ?_)
  try (conv => whnf)
  refine ⟨_, rfl, (tlC t).toArray, 3, fun w => by kernel_rfl, ?_⟩
  conv => whnf
  intro h3 n3
  have y3 : Blk h3 h2.size (tlC t) 3 := n3.blk
  have yd := n3.ext.blk y2
  have x3 := x2.trans n3.ext
  generalize h2.size = nb at y3
  clear y12 y2 y1 n3 n2 n1
  conv => whnf
  refine cw_block ?_
  refine cw_loop (S := Nat × Value) (fun s => [(2, .pointer (some ⟨h1.size, 0, none⟩)), (3, s.2), (14, .slice (some ⟨nb, 0, none⟩) 3 3), (15, .int .i64 3), (16, .int .i64 (s.1 : Int))])
    (fun s h' => s.1 ≤ 3 ∧ (∃ a c, s.2 = .slice a (keyN t s.1).length c) ∧ OB h' s.2 (keyN t s.1) ∧ Blk h' nb (tlC t) 3 ∧ Blk h' h1.size ((List.replicate 32 (0 : UInt8)).map u8v) 74 ∧ ExtH h h' ∧ ∀ b, ob s.2 b → h.size ≤ b) (fun s => 3 - s.1) (0, .slice none 0 0) ⟨rfl, rfl, rfl, rfl, rfl, trivial⟩
    ⟨by decide, ⟨_, _, rfl⟩, OB.nil h3, y3, yd, x3, fun b hb => (ob_nil hb).elim⟩ ?_
  clear y3 yd x3
  rintro ⟨i, x⟩ h4 ⟨hi, ⟨xa, xc, hx⟩, o4, y4, d4, x4, f4⟩
  simp only at hi hx o4 f4
  subst hx
  have hkl := keyN_len b i
  refine cw_seq (cw_go rfl ?_)
  conv => whnf
  by_cases hi3 : i < 3
  · refine say_t (by show (i : Int) < 3; omega) ?_
    refine cw_seq (cw_true rfl (cw_skip ?_))
    refine cw_seq (cw_block ?_)
    refine cw_seq (cw_go rfl ?_)
    conv => whnf
    refine And.intro ⟨by show (0 : Int) ≤ (i : Int); omega, by show (i : Int) < 3; omega⟩ ?_
    conv => whnf
    refine ⟨_, y4.rd (by rw [show 0 + (((i, Value.slice xa (keyN t i).length xc).1 : Int)).toNat = i by show 0 + ((i : Int)).toNat = i; omega]; exact tn_at t i hi3), ?_⟩
    refine cw_go rfl ?_
    conv => whnf
    refine ⟨_, rfl, _, max_int #[3, 3] 3 (tn t i) h4, ?_⟩
    rintro _ _ ⟨rfl, rfl⟩
    conv => whnf
    refine say_w (u64_max (tn_le b i)) ?_
    conv => whnf
    refine ⟨_, rfl, _, putUint_fn (OB.r o4) (by omega) (max_lt (tn_le b i)), ?_⟩
    rintro u h5 ⟨o5, x5, f5⟩
    obtain ⟨ua, uc, hue, _⟩ := Vm.Src.form (OB.r o5)
    have z4 := x4.size
    refine cw_go rfl ?_
    conv => whnf
    refine say_i (by show -9223372036854775808 ≤ (i : Int) + 1 ∧ (i : Int) + 1 < _; omega) ?_
    conv => whnf
    exact ⟨(i + 1, u), ⟨rfl, rfl, rfl, rfl, rfl, trivial⟩, ⟨by show i + 1 ≤ 3; omega, ⟨_, _, hue⟩, o5, x5.blk y4, x5.blk d4, x4.trans x5, fun b hb => by have := f5 b hb; omega⟩, by show 3 - (i + 1) < 3 - i; omega⟩
  · refine say_f (by show ¬ (i : Int) < 3; omega) ?_
    refine cw_seq (cw_false rfl (cw_exit ?_))
    have hi2 : i = 3 := by omega
    subst hi2
    rw [keyN_3] at *
    refine cw_seq (cw_go rfl ?_)
    conv => whnf
    refine ⟨_, rfl, #[.slice xa (keyB t).length xc], 33, fun w => by kernel_rfl, ?_⟩
    conv => whnf
    intro h5 n5
    have z5 := n5.size
    have o5 := OwnS.more o4 n5.ext
    have hx : PD (fun b => b < h5.size) h5 (.slice (some ⟨h4.size, 0, none⟩) 1 1) [keyB t] [.slice xa (keyB t).length xc] :=
      PD.one n5.blk (by show h4.size < h5.size; omega) ⟨OB.r o5, fun _ c hc => OwnS.lt o5 hc⟩
    conv => whnf
    refine ⟨_, rfl, _, stagged_fn (s := tool4) hx (fun c hc => hc) (by decide) (by simp [tool4]; omega), ?_⟩
    rintro _ h6 ⟨rfl, x6⟩
    conv => whnf
    intro h7 n7
    have d7 : Blk h7 h6.size ((List.replicate 32 (0 : UInt8)).map u8v) 74 := n7.blk
    conv => whnf
    refine store_dig (d := keyS t) d7 rfl (keyS_length t) ?_
    intro h8 w8
    have z6 := x6.size
    have z7 := n7.size
    have z8 := w8.size
    have z4 := x4.size
    have x8 : ExtH h h8 := ⟨by omega, fun c hc => by rw [w8.block c (by omega), n7.block c (by omega), x6.block c (by omega), n5.block c (by omega), x4.block c hc]⟩
    have l1 := d4.lt
    have d8 : Blk h8 h1.size ((List.replicate 32 (0 : UInt8)).map u8v) 74 := w8.blk (n7.ext.blk (x6.blk (n5.ext.blk d4))) (by omega)
    conv => whnf
    refine cw_seq (cw_go rfl ?_)
    conv => whnf
    refine ⟨_, by rw [List.length_map, keyS_length]; rfl, w8.new.all, ?_⟩
    conv => whnf
    refine store_dig (d := keyS t) d8 rfl (keyS_length t) ?_
    intro h9 w9
    have z9 := w9.size
    exact cw_ret ⟨_, by rw [List.length_map, keyS_length]; rfl, w9.new.all, rfl, ⟨by omega, fun c hc => by rw [w9.block c (by omega), x8.block c hc]⟩⟩
end Go.Proofs.YthigegabdbkhiaaGreatDoor
namespace Go.Proofs.YthigegabdbkhiaaGreatDoor
open Go Vm
set_option maxRecDepth 100000
set_option linter.unusedVariables false
set_option linter.unusedSimpArgs false
theorem ruint_fn {n : Int} (hn : -9223372036854775808 ≤ n ∧ n ≤ 9223372036854775807) (h : Heap) :
    Fx Tryz.prog 55 #[.int .i64 n] h fun u h' => OB h' u (uvar (max n 0).toNat) ∧ ExtH h h' ∧ ∀ b, ob u b → h.size ≤ b := by
  refine fn_of 8 Tryz.func55 rfl (by kernel_rfl) rfl (by simp) ?_
  refine cw_seq (cw_go rfl ?_)
  conv => whnf
  refine cw_seq (cw_seq (cw_go rfl ?_))
  conv => whnf
  by_cases h0 : n < 0
  · refine say_t h0 ?_
    refine cw_true rfl ?_
    refine cw_go rfl ?_
    conv => whnf
    refine cw_seq (cw_go rfl ?_)
    conv => whnf
    refine say_w (y := ((0 : Nat) : Int)) (by rw [IntKind.wrap_u64]; rfl) ?_
    conv => whnf
    refine ⟨_, rfl, _, rUint_fn 0 h (by decide), ?_⟩
    rintro u h1 ⟨o1, x1, f1⟩
    refine cw_ret ⟨?_, x1, f1⟩
    rw [show (max n 0).toNat = 0 by omega]
    exact o1
  · refine say_f h0 ?_
    refine cw_false rfl (cw_skip ?_)
    refine cw_seq (cw_go rfl ?_)
    conv => whnf
    refine say_w (y := (((max n 0).toNat : Nat) : Int)) (by rw [IntKind.wrap_u64]; omega) ?_
    conv => whnf
    refine ⟨_, rfl, _, rUint_fn (max n 0).toNat h (by omega), ?_⟩
    rintro u h1 ⟨o1, x1, f1⟩
    exact cw_ret ⟨o1, x1, f1⟩
theorem rkey_fn {t : Tl} (b : Tl64 t) {h : Heap} (T : Tab h) : Fx Tryz.prog 36 #[.agg (tlC t).toArray] h fun u h' => u = .agg ((keyS t).map u8v).toArray ∧ ExtH h h' := by
  refine fn_of 24 Tryz.func36 rfl (by kernel_rfl) rfl (by simp) ?_
  refine cw_seq (cw_go rfl ?_)
  intro h1 n1
  conv => whnf
  have y1 : Blk h1 h.size (tlC t) 27 := n1.blk
  intro h2 n2
  conv => whnf
  have y2 : Blk h2 h1.size ((List.replicate 32 (0 : UInt8)).map u8v) 74 := n2.blk
  have y12 := n2.ext.blk y1
  have x2 := n1.ext.trans n2.ext
  have z1 := n1.size
  have z2 := n2.size
  have T2 := T.more x2
  have us := uvar_10 (max_lt b.s.2)
  have um := uvar_10 (max_lt b.m.2)
  have ur := uvar_10 (max_lt b.r.2)
  refine cw_seq (cw_drawn (by kernel_rfl) 7 (fun i => i == 2 || i == 5 || i == 6) [0, 1, 3, 4, 2, 5, 6] (by kernel_rfl) rfl ?_)
  conv => whnf
  refine ⟨_, y12.rd (o := 0) rfl, ?_⟩
  conv => whnf
  refine ⟨_, y12.rd (o := 1) rfl, ?_⟩
  conv => whnf
  intro g1 e1
  conv => whnf
  refine ⟨_, rfl, _, ruint_fn b.s g1, ?_⟩
  rintro u1 g2 ⟨o1, q1, f1⟩
  refine ⟨q1.toU _, ?_⟩
  intro g3 e3
  conv => whnf
  intro g4 e4
  conv => whnf
  refine ⟨_, rfl, _, ruint_fn b.m g4, ?_⟩
  rintro u2 g5 ⟨o2, q2, f2⟩
  refine ⟨q2.toU _, ?_⟩
  intro g6 e6
  conv => whnf
  intro g7 e7
  conv => whnf
  have o1' := OwnS.more o1 (((e3.trans e4).trans q2).trans (e6.trans e7))
  have o2' := OwnS.more o2 (e6.trans e7)
  refine ⟨_, rfl, _, append_bytes (ty := 33) o1' (OB.r o2') (by omega), ?_⟩
  rintro u3 g8 ⟨o3, c3, f3⟩
  have za := e1.size
  have zb := q1.size
  have zc := e3.size
  have zd := e4.size
  have ze := q2.size
  have zf := e6.size
  have zg := e7.size
  have x28 : ExtH h2 g8 := ext_of_chg (e1.trans (((q1.trans e3).trans e4).trans (q2.trans (e6.trans e7)))) c3 (fun c hc => by have := f1 c hc; omega)
  have f8 : ∀ c, ob u3 c → h2.size ≤ c := fun c hc => (f3 c hc).elim (fun e => by have := f1 c e; omega) (fun e => by omega)
  refine ⟨⟨c3.size, fun c hc hlt => c3.block c hlt (fun e => by have := f1 c e; omega)⟩, ?_⟩
  intro g9 e9
  conv => whnf
  intro g10 e10
  conv => whnf
  have x210 := (x28.trans e9).trans e10
  have o10 := OwnS.more o3 (e9.trans e10)
  have y10 := x210.blk y12
  have yd := x210.blk y2
  have x010 := x2.trans x210
  obtain ⟨ua, uc, hue, _⟩ := Vm.Src.form (OB.r o10)
  clear c3 e1 q1 e3 e4 q2 e6 e7 e9 e10 o1 o2 o1' o2' o3 y12 y2
  refine cw_seq (cw_go rfl ?_)
  conv => whnf
  refine ⟨_, y10.rd (o := 2) rfl, ?_⟩
  conv => whnf
  refine ⟨_, rfl, _, ruint_fn b.r g10, ?_⟩
  rintro u4 k1 ⟨o4, q4, f4⟩
  conv => whnf
  have o3k := OwnS.more o10 q4
  have l10 : (uvar (max t.s 0).toNat ++ uvar (max t.m 0).toNat).length ≤ 20 := by rw [List.length_append]; omega
  have z10 := x210.size
  have zk := q4.size
  refine ⟨_, rfl, _, append_bytes (ty := 33) o3k (OB.r o4) (by omega), ?_⟩
  rintro u5 k2 ⟨o5, c5, f5⟩
  have x5 : ExtH h2 k2 := ext_of_chg (x210.trans q4) c5 (fun c hc => f8 c hc)
  have hkl : (keyB t).length ≤ 30 := by unfold keyB; rw [List.length_append]; omega
  have o5' : OB k2 u5 (keyB t) := o5
  obtain ⟨va, vc, hve, _⟩ := Vm.Src.form (OB.r o5')
  subst hve
  conv => whnf
  refine ⟨_, rfl, #[.slice va (keyB t).length vc], 33, fun w => by kernel_rfl, ?_⟩
  conv => whnf
  intro h5 n5
  have z5 := n5.size
  have o6 := OwnS.more o5' n5.ext
  have hx : PD (fun b => b < h5.size) h5 (.slice (some ⟨k2.size, 0, none⟩) 1 1) [keyB t] [.slice va (keyB t).length vc] :=
    PD.one n5.blk (by show k2.size < h5.size; omega) ⟨OB.r o6, fun _ c hc => OwnS.lt o6 hc⟩
  conv => whnf
  refine ⟨_, rfl, _, rtagged_fn (s := tool4) ((T2.more x5).more n5.ext) hx (fun c hc => hc) (by decide) (by simp [tool4]; omega), ?_⟩
  rintro _ h6 ⟨rfl, x6⟩
  conv => whnf
  intro h7 n7
  have d7 : Blk h7 h6.size ((List.replicate 32 (0 : UInt8)).map u8v) 74 := n7.blk
  conv => whnf
  refine store_dig (d := keyS t) d7 rfl (keyS_length t) ?_
  intro h8 w8
  have z6 := x6.size
  have z7 := n7.size
  have z8 := w8.size
  have zz := x5.size
  have x8 : ExtH h2 h8 := ⟨by omega, fun c hc => by rw [w8.block c (by omega), n7.block c (by omega), x6.block c (by omega), n5.block c (by omega), x5.block c hc]⟩
  have yd0 : Blk h8 h1.size ((List.replicate 32 (0 : UInt8)).map u8v) 74 := x8.blk n2.blk
  conv => whnf
  refine cw_seq (cw_go rfl ?_)
  conv => whnf
  refine ⟨_, by rw [List.length_map, keyS_length]; rfl, w8.new.all, ?_⟩
  conv => whnf
  refine store_dig (d := keyS t) yd0 rfl (keyS_length t) ?_
  intro h9 w9
  have z9 := w9.size
  have x08 := x2.trans x8
  exact cw_ret ⟨_, by rw [List.length_map, keyS_length]; rfl, w9.new.all, rfl, ⟨by have := x08.size; omega, fun c hc => by rw [w9.block c (by omega), x08.block c hc]⟩⟩
end Go.Proofs.YthigegabdbkhiaaGreatDoor
