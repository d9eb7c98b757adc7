/-
  bytes.Equal; the law's alive.
  What the row of ToolNil says: the table of the document's hash.
  What the row says of a list of acts.
-/
import Derived.Test.YthigegabdbkhiaaGreatDoorJ12
import Derived.Test.YthigegabdbkhiaaGreatDoorCards
import Derived.Test.YthigegabdbkhiaaGreatDoorJ6
import Derived.Test.YthigegabdbkhiaaGreatDoorJ7
import Derived.SliceStrings
import Derived.Deep.DeepHandedRow
import Derived.Lib.LaidTab
import Derived.Stop.LaidErr
import Derived.Shelf.Vars
import Derived.LaidMore
import Derived.LaidOnce
import Derived.MakeChecks
import Derived.Lay
import Derived.ChangeSame
import Derived.ChangeMaps
namespace Go.Proofs.YthigegabdbkhiaaGreatDoor
open Go Vm
set_option maxRecDepth 100000
set_option linter.unusedVariables false
set_option linter.unusedSimpArgs false
theorem bequal_fn {h : Heap} {u v : Value} {l m : List UInt8} (hu : RB h u l) (hv : RB h v m) : Fx Tryz.prog 17 #[u, v] h fun r h' => r = .bool (decide (l = m)) ∧ h' = h := by
  refine fn_of 10 Tryz.func17 rfl (by kernel_rfl) rfl (by simp) ?_
  refine cw_seq (cw_go rfl ?_)
  conv => whnf
  refine cw_seq (cw_go rfl ?_)
  conv => whnf
  refine ⟨_, conv_str (dst := 9) (e := 5) rfl rfl rfl hu, ?_⟩
  rintro _ h1 ⟨rfl, e⟩
  replace e := e.symm
  subst e
  conv => whnf
  refine ⟨_, conv_str (dst := 9) (e := 5) rfl rfl rfl hv, ?_⟩
  rintro _ h1 ⟨rfl, e⟩
  replace e := e.symm
  subst e
  conv => whnf
  refine say_seq (fun h1 => ?_) (fun h1 => ?_)
  · exact cw_ret ⟨by rw [decide_eq_true h1]; rfl, rfl⟩
  · exact cw_ret ⟨by rw [decide_eq_false h1]; rfl, rfl⟩
theorem saidS_len {t : Tl} (hm : mayS t = true) : 1 ≤ (saidS t).length ∧ (saidS t).length ≤ 999 := by
  obtain ⟨hs, hn, hr⟩ := may_in hm
  have hbl := bodyS_len (s := t.s.toNat) (by omega) (keyS_length t)
  have ul := uvar_10 (show (bodyS t.s.toNat (keyS t)).length < 18446744073709551616 by omega)
  unfold saidS encS Crc.sealB Crc.bytes4
  simp only [List.length_append, List.length_cons, List.length_nil]
  omega
def ta : Tl := ⟨1, 1, 99⟩
theorem store_rw {h : Heap} {b : Nat} {l0 : List Value} {t : Tl} {m s n : Int} {a : Option Addr} {k c : Nat} {K : Heap → Prop} (hb : Blk h b l0 63) (h0 : l0.length = 34) (H : ∀ h', Wrote h h' b (rW t m s n (.slice a k c)) 63 → K h') :
    ∃ l ty, Blk h b l ty ∧ (0 + (rW t m s n (.slice a k c)).toArray.size ≤ l.length ∧ (rW t m s n (.slice a k c)).toArray.size = 34 ∧ ∀ x ∈ (rW t m s n (.slice a k c)).toArray.toList, x.oneCell' = true) ∧ ∀ h', Wrote h h' b (splice l 0 (rW t m s n (.slice a k c)).toArray.toList) ty → K h' :=
  ⟨_, _, hb, ⟨by show 34 ≤ _; omega, rfl, by simp [rW, tlC, stC, coC, Value.oneCell']⟩, fun h' w => H h' (w.cast (by
    show l0.take 0 ++ rW t m s n (.slice a k c) ++ l0.drop (0 + 34) = _
    rw [List.drop_of_length_le (by omega)]
    simp))⟩
theorem alive_fn {h : Heap} (T : Tab h) : Fx Tryz.prog 4 #[] h fun u h' => u = .bool true ∧ ExtH h h' := by
  refine fn_of 40 Tryz.func4 rfl (by kernel_rfl) rfl (by simp) ?_
  have hm : mayS ta = true := by decide
  have hlen := saidS_len hm
  refine cw_seq (cw_go rfl ?_)
  conv => whnf
  refine cw_seq (cw_go rfl ?_)
  conv => whnf
  refine ⟨_, rfl, (tlC ta).toArray, fun w => by kernel_rfl, ?_⟩
  conv => whnf
  conv => whnf
  refine ⟨_, rfl, _, tnew_fn hm h, ?_⟩
  rintro _ h1 ⟨p, c, d, v, rfl, W, x1, hp, hv⟩
  conv => whnf
  refine cw_seq (cw_go rfl ?_)
  conv => whnf
  refine ⟨_, rfl, (tlC ta).toArray, fun w => by kernel_rfl, ?_⟩
  conv => whnf
  conv => whnf
  refine ⟨_, rfl, _, rtnew_fn hm (T.more x1), ?_⟩
  rintro _ h2 ⟨rv, rfl, o2, ⟨ra, rc, hre⟩, x2, f2⟩
  subst hre
  conv => whnf
  intro h3 n3
  have y3 : Blk h3 h2.size (rW tz 0 0 0 (.slice none 0 0)) 63 := n3.blk
  conv => whnf
  refine store_rw y3 rfl ?_
  intro h4 w4
  have y4 := w4.new
  have z2 := x2.size
  have z3 := n3.size
  have z4 := w4.size
  have x24 : ExtH h2 h4 := ⟨by omega, fun b hb => by rw [w4.block b (by omega), n3.block b hb]⟩
  have W4 := (W.more x2).more x24
  have o4 := OwnS.more o2 x24
  have x14 := x2.trans x24
  have lp := W.blk.lt
  have z14 := x14.size
  have z1 := x1.size
  have hpr : p ≠ h2.size := by omega
  have ho := W.out
  have hob : ∀ b, ob v b → b < h1.size := fun b hb => OwnS.lt ho hb
  conv => whnf
  refine cw_seq (cw_keeps (by kernel_rfl) 25 (fun b => b ≠ p ∧ ¬ ob v b) (.q 0 (.q 1 (.q 2 (.q 3 (.q 4 (.q 5 (.q 6 (.q 7 (.i1 8 (.q 9 (.q 10 (.q 11 (.q 13 (.q 14 (.q 15 (.i1 12 (.q 16 (.q 17 (.q 18 (.q 19 (.q 21 (.q 22 (.i1 20 (.i1 23 (.q 24 .leaf))))))))))))))))))))))))) (by kernel_rfl) rfl ?_)
  have kp : ∀ {h' : Heap}, ExtP (fun b => b ≠ p ∧ ¬ ob v b) h4 h' → Blk h' h2.size (rW ta 2097152 ta.s ta.m (.slice ra (saidS ta).length rc)) 63 := fun e =>
    (e.block _ ⟨fun e => hpr e.symm, fun e => by have := hob _ e; omega⟩ (by omega)).trans y4
  conv => whnf
  refine ⟨_, fun h' e => rfl, ?_⟩
  conv => whnf
  refine ⟨.bool true, fun h' e => rfl, ?_⟩
  conv => whnf
  refine ⟨.bool true, fun h' e => rfl, ?_⟩
  conv => whnf
  refine ⟨_, fun h' e => rfl, ?_⟩
  conv => whnf
  refine ⟨.bool true, fun h' e => ⟨.bool true, fun w => by kernel_rfl, rfl⟩, ?_⟩
  conv => whnf
  refine ⟨.bool true, fun h' e => rfl, ?_⟩
  conv => whnf
  refine ⟨.bool true, fun h' e => rfl, ?_⟩
  conv => whnf
  refine ⟨pp p, fun h' e => rfl, ?_⟩
  conv => whnf
  intro g1 e1
  conv => whnf
  refine ⟨_, rfl, _, takes_fn (W4.more e1) (by decide), ?_⟩
  rintro _ g2 ⟨rfl, q2⟩
  refine ⟨q2.toP _, ?_⟩
  intro g3 e3
  conv => whnf
  refine ⟨.bool true, fun h' e => rfl, ?_⟩
  conv => whnf
  refine ⟨.bool true, fun h' e => rfl, ?_⟩
  conv => whnf
  refine ⟨pp p, fun h' e => rfl, ?_⟩
  conv => whnf
  refine ⟨_, fun h' e => rfl, ?_⟩
  conv => whnf
  refine ⟨.slice ra (saidS ta).length rc, fun h' e => ⟨_, (kp e).rd (o := 32) rfl, rfl⟩, ?_⟩
  conv => whnf
  refine ⟨.int .i64 ((saidS ta).length : Int), fun h' e => rfl, ?_⟩
  conv => whnf
  intro g4 e4
  conv => whnf
  have W5 := W4.more ((e1.trans q2).trans (e3.trans e4))
  refine ⟨_, rfl, _, out_fn W5, ?_⟩
  rintro _ g5 ⟨rfl, q5⟩
  replace q5 := q5.symm
  subst q5
  refine ⟨ExtP.refl _ _, ?_⟩
  intro g6 e6
  conv => whnf
  refine ⟨.bool true, fun h' e => by show Value.bool (((saidS ta).length : Int) == ((saidS ta).length : Int)) = _; simp, ?_⟩
  conv => whnf
  refine ⟨.bool true, fun h' e => rfl, ?_⟩
  conv => whnf
  refine ⟨.bool true, fun h' e => rfl, ?_⟩
  conv => whnf
  refine ⟨pp p, fun h' e => rfl, ?_⟩
  conv => whnf
  refine ⟨_, fun h' e => rfl, ?_⟩
  conv => whnf
  refine ⟨.slice ra (saidS ta).length rc, fun h' e => ⟨_, (kp e).rd (o := 32) rfl, rfl⟩, ?_⟩
  conv => whnf
  intro g7 e7
  conv => whnf
  have W7 := W5.more (e6.trans e7)
  refine ⟨_, rfl, _, wtake_fn W7 hlen.1 hlen.2, ?_⟩
  rintro u g8 ⟨o8, c8⟩
  refine ⟨⟨c8.size, fun b hb hlt => c8.block b hlt (fun e => e.elim hb.1 hb.2)⟩, ?_⟩
  intro g9 e9
  conv => whnf
  intro g10 e10
  conv => whnf
  have x47 := ((e1.trans q2).trans (e3.trans e4)).trans (e6.trans e7)
  have o7 := OwnS.more o4 x47
  have o10 : OB g10 (.slice ra (saidS ta).length rc) (saidS ta) := OwnS.more (OwnS.keep o7 c8 (fun b hb e => by
    have := f2 b hb
    rcases e with e | e
    · omega
    · have := hob b e; omega)) (e9.trans e10)
  refine ⟨_, rfl, _, bequal_fn (OB.r (OwnS.more o8 (e9.trans e10))) (OB.r o10), ?_⟩
  rintro _ g11 ⟨rfl, q11⟩
  replace q11 := q11.symm
  subst q11
  refine ⟨ExtP.refl _ _, ?_⟩
  intro g12 e12
  rw [decide_eq_true rfl]
  conv => whnf
  refine ⟨.bool true, fun h' e => rfl, ?_⟩
  conv => whnf
  intro g13 e13
  conv => whnf
  have z47 := x47.size
  have z8 := c8.size
  have zz := ((e9.trans e10).trans (e12.trans e13)).size
  refine cw_ret ⟨rfl, ⟨by omega, fun b hb => ?_⟩⟩
  have xx := (e9.trans e10).trans (e12.trans e13)
  rw [xx.block b (by omega), c8.block b (by omega) (fun e => e.elim (fun e => by omega) (fun e => by have := hv b e; omega)), x47.block b (by omega), x14.block b (by omega), x1.block b hb]
end Go.Proofs.YthigegabdbkhiaaGreatDoor
namespace Go.Proofs.YthigegabdbkhiaaGreatDoor
open Go Vm
open Go.ChangeShapes Go.WideShapes Go.ChangeAt Go.RowKit
set_option maxRecDepth 100000
namespace TnRow
def zs64 : List Int := [1116352408, 1899447441, 3049323471, 3921009573, 961987163, 1508970993, 2453635748, 2870763221, 3624381080, 310598401, 607225278, 1426881987, 1925078388, 2162078206, 2614888103, 3248222580, 3835390401, 4022224774, 264347078, 604807628, 770255983, 1249150122, 1555081692, 1996064986, 2554220882, 2821834349, 2952996808, 3210313671, 3336571891, 3584528711, 113926993, 338241895, 666307205, 773529912, 1294757372, 1396182291, 1695183700, 1986661051, 2177026350, 2456956037, 2730485921, 2820302411, 3259730800, 3345764771, 3516065817, 3600352804, 4094571909, 275423344, 430227734, 506948616, 659060556, 883997877, 958139571, 1322822218, 1537002063, 1747873779, 1955562222, 2024104815, 2227730452, 2361852424, 2428436474, 2756734187, 3204031479, 3329325298]
theorem zs64_eq : zs64.map (Value.int .u32) = Sha.K.map u32v := by kernel_rfl
theorem gTab : Tryz.prog.globalNamed "treadle/treadleref02.constants" = some 1 := by kernel_rfl
theorem gTabType : (Tryz.prog.globals[1]?).map (·.type) = some 314 := by kernel_rfl
theorem laid_plain : laidMetH Tryz.prog Rows.toolNilUptoRow.laid = laidMet Tryz.prog Rows.toolNilUptoRow.laid := funext fun w => Go.MakeChecks.laidMetH_plain _ _ w (by kernel_rfl)
theorem tab_of {W : World} (hL : laidMetH Tryz.prog Rows.toolNilUptoRow.laid W) : Tab W.heap := by
  rw [laid_plain] at hL
  have ht : Lib.TabIs Tryz.prog W "treadle/treadleref02.constants" .u32 zs64 := Lib.tabIs_of_head gTab gTabType (t := 314) (e := 239) (n := 64) rfl rfl (by kernel_rfl) (by kernel_rfl) hL
  intro j v hj
  have hl : j < 64 := by have := (List.getElem?_eq_some_iff.1 hj).1; simpa [Sha.K] using this
  have := ht.cell gTab j hl
  rw [cell_eq_rd] at this
  rw [← zs64_eq, List.getElem?_map, List.getElem?_eq_getElem (show j < zs64.length from hl)] at hj
  rw [Nat.zero_add, this, ← hj, List.getD_eq_getElem?_getD, List.getElem?_eq_getElem (show j < zs64.length from hl)]
  rfl
theorem int_cell {H : Type} {enc : TypeId × Value → H} {w : World} {base : Nat} {spare : Nat → Bool} {held : Bool} {P : Program} {t : TypeId} {k : IntKind} {fuel : Nat} {c : Value} {x : DataW H × List MemPlace} (ht : P.underlying t = some (.int k)) (hf : DataW.trod enc P w base spare held fuel t [c] = some x) : ∃ z : Int, c = .int k z ∧ x.1 = .lit (.int k z) ∧ (Lit.int k z).wf = true := by
  obtain ⟨z, h1, h2, h3⟩ := DataW.trod_int ht hf
  simp at h1
  exact ⟨z, h1, by rw [h2], h3⟩
end TnRow
theorem nil_fn {h : Heap} (T : Tab h) {av : Value} {l : List Actv} (r : RAc h av l) : Fx Tryz.prog 3 #[av] h fun u h' => u = .bool true ∧ ExtH h h' :=
  nil_law r (alive_fn T)
end Go.Proofs.YthigegabdbkhiaaGreatDoor
namespace Go.Proofs.YthigegabdbkhiaaGreatDoor.TnRow
open Go Vm
open Go.ChangeShapes Go.WideShapes Go.ChangeAt Go.RowKit
set_option maxRecDepth 100000
theorem lists_of {α : Type} (p : Nat → α → Prop) : ∀ n : Nat, (∀ i, i < n → ∃ x, p i x) → ∃ xs : List α, xs.length = n ∧ ∀ i x, xs[i]? = some x → p i x
  | 0, _ => ⟨[], rfl, fun i x h => by simp at h⟩
  | n + 1, H => by
    obtain ⟨xs, h1, h2⟩ := lists_of p n (fun i hi => H i (by omega))
    obtain ⟨x, hx⟩ := H n (by omega)
    refine ⟨xs ++ [x], by simp [h1], fun i y hy => ?_⟩
    by_cases hi : i < n
    · rw [List.getElem?_append_left (by omega)] at hy
      exact h2 i y hy
    · have hlt := (List.getElem?_eq_some_iff.1 hy).1
      simp only [List.length_append, List.length_cons, List.length_nil, h1] at hlt
      have : i = n := by omega
      subst this
      rw [List.getElem?_append_right (by omega), h1] at hy
      simp at hy
      exact hy ▸ hx
section
variable {H : Type} {enc : TypeId × Value → H} {w : World} {base : Nat} {spare : Nat → Bool} {held : Bool}
theorem bytes_of (zs : List Int) (h : ∀ z ∈ zs, (Lit.int .u8 z).wf = true) : ∃ l : List UInt8, l.length = zs.length ∧ zs = l.map (fun b => (b.toNat : Int)) := by
  refine ⟨zs.map (fun z => UInt8.ofNat z.toNat), by simp, ?_⟩
  rw [List.map_map]
  conv => lhs; rw [← List.map_id zs]
  apply List.map_congr_left
  intro z hz
  have := bounds_u8 (h z hz)
  simp
  omega
theorem lits_bulk : ∀ ys : List Int, ys.length ≤ Rows.uptoBulkAll (lits (H := H) .u8 ys)
  | [] => Nat.zero_le _
  | y :: ys => by
    have h1 : Rows.uptoBulkAll (lits (H := H) .u8 (y :: ys)) = 1 + Rows.uptoBulkAll (lits (H := H) .u8 ys) := by simp [lits, Rows.uptoBulkAll, Rows.uptoBulk]
    have h2 := lits_bulk ys
    rw [h1, List.length_cons]
    omega
theorem bulk_le {d : DataW H} : ∀ {l : List (DataW H)}, d ∈ l → Rows.uptoBulk d ≤ Rows.uptoBulkAll l
  | [], h => by cases h
  | x :: l, h => by
    simp only [Rows.uptoBulkAll]
    rcases List.mem_cons.1 h with rfl | h
    · omega
    · have := bulk_le h; omega
theorem bulk_count : ∀ l : List (DataW H), l.length ≤ Rows.uptoBulkAll l
  | [] => Nat.zero_le _
  | x :: l => by
    have ih := bulk_count l
    have : 1 ≤ Rows.uptoBulk x := by
      cases x with
      | lit l => cases l <;> simp [Rows.uptoBulk]
      | _ => simp [Rows.uptoBulk]
    simp only [Rows.uptoBulkAll, List.length_cons]
    omega
theorem open_bytes_cell {fuel : Nat} {cs : List Value} {x : DataW H × List MemPlace} (hf : DataW.trod enc Tryz.prog w base spare held fuel 33 cs = some x) :
    ∃ (v : Value) (l : List UInt8), cs = [v] ∧ RB w.heap v l ∧ l.length + 1 ≤ Rows.uptoBulk x.1 := by
  rcases open_ints (P := Tryz.prog) (e := 5) (k := .u8) rfl rfl (by kernel_rfl) hf with ⟨hcs, hx⟩ | ⟨a, len, cap, zs, hcs, _, hl, hm, hz, hx, hcell, hwz⟩
  · subst hx
    exact ⟨_, [], hcs, ⟨rfl, .inl ⟨rfl, rfl⟩⟩, Nat.le_refl _⟩
  · have hzl : len ≤ zs.length := by rw [hz]; split <;> omega
    obtain ⟨m, h4, h5⟩ := bytes_of (zs.take len) (fun z hz => hwz z (List.mem_of_mem_take hz))
    have hlen : m.length = len := by rw [h4, List.length_take]; omega
    have hrd : rdA w.heap a (m.map u8v) := fun j u hj => by
      have hjl : j < len := by have := (List.getElem?_eq_some_iff.1 hj).1; simpa [hlen] using this
      have := hcell j (by omega)
      rw [cell_eq_rd] at this
      rw [this]
      rw [map_u8v, ← h5, List.getElem?_map, List.getElem?_take, if_pos hjl] at hj
      rw [← hj, List.getElem?_eq_getElem (show j < zs.length by omega), List.getD_eq_getElem?_getD, List.getElem?_eq_getElem (show j < zs.length by omega)]
      rfl
    refine ⟨_, m, hcs, ⟨by simp, .inr ⟨a, cap, by rw [hlen], by omega, hm, hrd⟩⟩, ?_⟩
    subst hx
    have h6 := lits_bulk (H := H) (zs.take len)
    simp only [Rows.uptoBulk]
    rw [List.length_take] at h6
    omega
theorem open_act_cells {fuel : Nat} {cs : List Value} {y : DataW H × List MemPlace} (hf : DataW.trod enc Tryz.prog w base spare held fuel 38 cs = some y) (hl : cs.length = 3) :
    ∃ x : Actv, cs = acC x ∧ RB w.heap x.bv x.b := by
  obtain ⟨xs, n, _, hx, _, hlen, hfs⟩ := DataW.trod_struct (P := Tryz.prog) (t := 38) rfl hf
  have h0 := hfs 0 _ rfl
  have h1 := hfs 1 _ rfl
  have h2 := hfs 2 _ rfl
  match xs, hlen with
  | [y0, y1, y2], _ =>
    match cs, hl with
    | [c0, c1, c2], _ =>
      obtain ⟨z0, rfl, _, _⟩ := int_cell (P := Tryz.prog) (k := .i64) (c := c0) rfl h0
      obtain ⟨z2, rfl, _, _⟩ := int_cell (P := Tryz.prog) (k := .i64) (c := c2) rfl h2
      obtain ⟨v, l, e4, r4, b4⟩ := open_bytes_cell h1
      have e4' : [c1] = [v] := e4
      simp only [List.cons.injEq, and_true] at e4'
      clear e4
      subst e4'
      exact ⟨⟨z0, _, l, z2⟩, rfl, r4⟩
theorem open_acts {v : Value} {d : DataW H} {ps : List MemPlace} {r : Reach} {b0 : Nat} (hval : Value.okWide Tryz.prog w r b0 22 v) (hd : DataW.Trod enc Tryz.prog w base spare held 22 v d ps) :
    ∃ l : List Actv, RAc w.heap v l := by
  obtain ⟨a0, len, cap, rfl⟩ := okWide_slice (P := Tryz.prog) (e := 38) rfl hval
  obtain ⟨fuel, hf⟩ := hd
  rcases DataW.trod_slice (P := Tryz.prog) (e := 38) rfl hf with ⟨hcs, hx⟩ | ⟨a, l, c, elems, rest, n, _, hcs, hx, _, hl, hm, hlen, hel, _, _⟩
  · simp [Value.cells] at hcs
    obtain ⟨rfl, rfl, rfl⟩ := hcs
    exact ⟨[], ⟨rfl, .inl ⟨rfl, rfl⟩⟩, fun x hx => (by cases hx)⟩
  · simp [Value.cells] at hcs
    obtain ⟨rfl, rfl, rfl⟩ := hcs
    have hone : Tryz.prog.cellsOf 38 = 3 := by kernel_rfl
    obtain ⟨xs, hxl, hxs⟩ := lists_of (fun i (y : Actv) => (∀ k, k < 3 → rd w.heap (a.add (i * 3 + k)) = (acC y)[k]?) ∧ RB w.heap y.bv y.b) len (fun i hi => by
      have h1 := hel i hi
      rw [List.getElem?_eq_getElem (show i < elems.length by omega), hone, Option.bind_eq_some_iff] at h1
      obtain ⟨cs, h2, h3⟩ := h1
      obtain ⟨_, h4, h5⟩ := World.cells?_some h2
      obtain ⟨o, rfl, h6⟩ := open_act_cells h3 h4
      refine ⟨o, fun k hk => ?_, h6⟩
      have e0 := h5 k (by omega)
      rw [add_add, cell_eq_rd] at e0
      rw [e0])
    have hrd : rdA w.heap a (acsC xs) := fun j u hj => by
      have hjl := (List.getElem?_eq_some_iff.1 hj).1
      rw [acsC_length] at hjl
      have hi : j / 3 < xs.length := by omega
      have hy := List.getElem?_eq_getElem hi
      obtain ⟨r0, _⟩ := hxs (j / 3) _ hy
      have h1 := r0 (j % 3) (by omega)
      rw [show j / 3 * 3 + j % 3 = j by omega] at h1
      rw [h1]
      cases hu : (acC xs[j / 3])[j % 3]? with
      | none =>
        have := List.getElem?_eq_none_iff.1 hu
        simp [acC] at this
        omega
      | some u' =>
        have h2 := acsC_at hy (j % 3) u' hu
        rw [show j / 3 * 3 + j % 3 = j by omega] at h2
        rw [h2] at hj
        exact hj
    have hmem : ∀ x ∈ xs, RB w.heap x.bv x.b := fun x hx => by
      obtain ⟨i, hi, e⟩ := List.getElem_of_mem hx
      exact (hxs i x (by rw [List.getElem?_eq_getElem hi, e])).2
    exact ⟨xs, ⟨acsC_length xs, .inr ⟨a, cap, by rw [hxl], by omega, hm, hrd⟩⟩, hmem⟩
end
end Go.Proofs.YthigegabdbkhiaaGreatDoor.TnRow
