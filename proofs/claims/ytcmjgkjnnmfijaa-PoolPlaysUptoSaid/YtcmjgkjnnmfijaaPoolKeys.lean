/-
  slices.Index and Contains of digests; the laws' keys.
-/
import Derived.Test.YtcmjgkjnnmfijaaPoolPick
namespace Go.Proofs.Ytcmjgkjnnmfijaa
open Go Vm
set_option maxRecDepth 100000
set_option linter.unusedVariables false
def digC (ks : List (List UInt8)) : List Value := ks.flatMap fun k => k.map u8v
def all32 (ks : List (List UInt8)) : Prop := ∀ k ∈ ks, k.length = 32
theorem digC_length : ∀ {ks : List (List UInt8)}, all32 ks → (digC ks).length = ks.length * 32
  | [], _ => rfl
  | k :: ks, h => by
    have h1 := digC_length (ks := ks) (fun x hx => h x (by simp [hx]))
    have h2 := h k (by simp)
    show (k.map u8v ++ digC ks).length = _
    rw [List.length_append, h1, List.length_map, h2, List.length_cons]
    omega
theorem digC_at {ks : List (List UInt8)} (hk : all32 ks) {i : Nat} {d : List UInt8} (hd : ks[i]? = some d) (k : Nat) (u : Value) (hu : (d.map u8v)[k]? = some u) : (digC ks)[i * 32 + k]? = some u := by
  induction ks generalizing i with
  | nil => simp at hd
  | cons x ks ih =>
    have hx := hk x (by simp)
    show (x.map u8v ++ digC ks)[i * 32 + k]? = some u
    cases i with
    | zero =>
      simp at hd
      subst hd
      have := (List.getElem?_eq_some_iff.1 hu).1
      rw [List.getElem?_append_left (by omega)]
      simpa using hu
    | succ i =>
      rw [List.getElem?_append_right (by rw [List.length_map]; omega), List.length_map, hx, show (i + 1) * 32 + k - 32 = i * 32 + k by omega]
      exact ih (fun y hy => hk y (by simp [hy])) (by simpa using hd)
/-- digests that are read -/
def RK (h : Heap) (v : Value) (ks : List (List UInt8)) : Prop := Src h 32 v ks.length (digC ks)
theorem RK.more {h h' : Heap} {v : Value} {l : List (List UInt8)} (r : RK h v l) (e : ExtH h h') : RK h' v l := Src.more r e
theorem RK.fix {h : Heap} {v : Value} {l : List (List UInt8)} (r : RK h v l) : ∃ a c, v = .slice a l.length c ∧ l.length ≤ maxLen := by
  obtain ⟨a, c, e, h1, h2⟩ := Src.form r
  exact ⟨a, c, e, by omega⟩
theorem RK.get {h : Heap} {a : Option Addr} {n c : Nat} {l : List (List UInt8)} (r : RK h (.slice a n c) l) (h32 : all32 l) (t : Nat) (hlt : t < l.length) : ∃ b o, a = some ⟨b, o, none⟩ ∧ rdN h b (o + t * 32) ((l.getD t []).map u8v) := by
  rcases r.2 with ⟨h1, h2⟩ | ⟨A, cap, h1, hc, hm, hr⟩
  · omega
  · injection h1 with h1
    have hne : digC l ≠ [] := by
      intro e
      have := digC_length h32
      rw [e] at this
      simp only [List.length_nil] at this
      omega
    have hs := hr.spot hne
    rw [hs, rdA_plain] at hr
    refine ⟨A.block, A.off, by rw [← hs]; exact h1, fun k u hu => ?_⟩
    rw [Nat.add_assoc]
    refine hr (t * 32 + k) u (digC_at h32 (d := l.getD t []) ?_ k u hu)
    rw [List.getD_eq_getElem?_getD, List.getElem?_eq_getElem hlt]
    rfl
theorem dindex_fn {h : Heap} {v : Value} {l : List (List UInt8)} (x : List UInt8) (hx : x.length = 32) (r : RK h v l) (h32 : all32 l) :
    Fx Try.prog 58 #[v, .agg (x.map u8v).toArray] h fun u h' => ∃ z : Int, u = .int .i64 z ∧ (0 ≤ z ↔ x ∈ l) ∧ ExtH h h' := by
  refine fn_of 19 Try.func58 rfl (by kernel_rfl) rfl (by simp) ?_
  obtain ⟨a, c, e, hm⟩ := r.fix
  have hmax : maxLen < 9223372036854775808 := by decide
  subst e
  refine cw_seq (cw_region rfl ?_)
  conv => whnf
  intro ha na
  have ya : Blk ha h.size (x.map u8v) 29 := na.blk
  have xa := na.ext
  clear na
  refine cw_seq (cw_seq (cw_region rfl ?_))
  conv => whnf
  refine cw_block ?_
  refine cw_loop (S := Nat) (fun t => [(0, .slice a l.length c), (3, .pointer (some ⟨h.size, 0, none⟩)), (7, .int .i64 (l.length : Int)), (8, .int .i64 (t : Int))])
    (fun t h' => t ≤ l.length ∧ (∀ i, i < t → l.getD i [] ≠ x) ∧ ExtH ha h') (fun t => l.length - t) 0 ⟨rfl, rfl, rfl, rfl, trivial⟩ ⟨by omega, fun i hi => by omega, ExtH.refl _⟩ ?_
  rintro t h0 ⟨ht, hno, x0⟩
  refine cw_seq (cw_region rfl ?_)
  by_cases hlt : t < l.length
  · refine cw_seq (cw_yes rfl (by omega) (cw_skip ?_))
    obtain ⟨b, o, rfl, hr⟩ := (r.more (xa.trans x0)).get h32 t hlt
    have hd : (l.getD t []).length = 32 := by
      rw [List.getD_eq_getElem?_getD, List.getElem?_eq_getElem hlt]
      exact h32 _ (List.getElem_mem hlt)
    refine cw_seq (cw_block (cw_seq (cw_region rfl ?_)))
    conv => whnf
    refine cw_seq ?_
    refine cw_drawn (by kernel_rfl) 5 (fun _ => false) (List.range 5) (by kernel_rfl) rfl ?_
    conv => whnf
    refine ⟨x.map u8v, by rw [List.length_map, hx]; rfl, (x0.blk ya).all, ?_⟩
    conv => whnf
    refine ⟨⟨by omega, by omega⟩, ?_⟩
    conv => whnf
    refine ⟨(l.getD t []).map u8v, by rw [List.length_map, hd]; rfl, by rwa [show o + t * 32 = o + ((t : Int)).toNat * 32 by omega] at hr, ?_⟩
    conv => whnf
    intro h1 x1
    conv => whnf
    by_cases hxe : x = l.getD t []
    · refine ⟨.bool true, fun wd => by rw [dig_eq _ _ _ _ hx hd, decide_eq_true hxe], ?_⟩
      conv => whnf
      refine cw_true rfl ?_
      refine cw_seq (cw_region rfl ?_)
      refine cw_ret ⟨(t : Int), rfl, ⟨fun _ => ?_, fun _ => by omega⟩, (xa.trans x0).trans x1⟩
      rw [hxe, List.getD_eq_getElem?_getD, List.getElem?_eq_getElem hlt]
      exact List.getElem_mem hlt
    · refine ⟨.bool false, fun wd => by rw [dig_eq _ _ _ _ hx hd, decide_eq_false hxe], ?_⟩
      conv => whnf
      refine cw_false rfl (cw_skip ?_)
      refine cw_region rfl ?_
      exact ⟨t + 1, ⟨rfl, rfl, rfl, slot_i64 _ _ (by omega) (by omega), trivial⟩, ⟨by omega, fun i hi => by
        by_cases hit : i < t
        · exact hno i hit
        · have : i = t := by omega
          rw [this]; exact fun e => hxe e.symm, x0.trans x1⟩, by omega⟩
  · refine cw_seq (cw_no rfl (by omega) (cw_exit ?_))
    refine cw_seq (cw_region rfl ?_)
    refine cw_ret ⟨-1, rfl, ⟨fun h => by omega, fun h => ?_⟩, xa.trans x0⟩
    obtain ⟨i, hi, e⟩ := List.getElem_of_mem h
    have := hno i (by omega)
    rw [List.getD_eq_getElem?_getD, List.getElem?_eq_getElem hi] at this
    exact absurd e this
theorem dcontains_fn {h : Heap} {v : Value} {l : List (List UInt8)} (x : List UInt8) (hx : x.length = 32) (r : RK h v l) (h32 : all32 l) :
    Fx Try.prog 39 #[v, .agg (x.map u8v).toArray] h fun u h' => u = .bool (decide (x ∈ l)) ∧ ExtH h h' := by
  refine fn_of 9 Try.func39 rfl (by kernel_rfl) rfl (by simp) ?_
  refine cw_seq (cw_region rfl ?_)
  conv => whnf
  intro ha na
  have ya : Blk ha h.size (x.map u8v) 29 := na.blk
  have xa := na.ext
  clear na
  refine cw_seq (cw_region rfl ?_)
  conv => whnf
  refine ⟨x.map u8v, by rw [List.length_map, hx]; rfl, ya.all, ?_⟩
  conv => whnf
  refine ⟨_, rfl, _, dindex_fn x hx (r.more xa) h32, ?_⟩
  rintro _ h1 ⟨z, rfl, hz, e⟩
  refine cw_ret ⟨?_, xa.trans e⟩
  show Value.bool (decide (0 ≤ z)) = _
  congr 1
  simp only [decide_eq_decide]
  exact hz
def kd (k : UInt8) : List UInt8 := k :: List.replicate 31 0
theorem kd_length (k : UInt8) : (kd k).length = 32 := by simp [kd]
theorem all32_kd (l : List UInt8) : all32 (l.map kd) := fun k hk => by
  obtain ⟨a, _, rfl⟩ := List.mem_map.1 hk
  exact kd_length a
theorem infoD : (Try.prog.info? 29).map (fun i => (i.zero, i.size, i.bytes)) = some (some (.agg ((List.replicate 32 0).map u8v).toArray), 32, 32) := by kernel_rfl
/-- our own digests -/
def OK (h : Heap) (v : Value) (ks : List (List UInt8)) : Prop := OwnS h 29 32 v ks.length (digC ks)
theorem OK.r {h : Heap} {v : Value} {l : List (List UInt8)} (o : OK h v l) : RK h v l := OwnS.src o
theorem OK.nil (h : Heap) : OK h (.slice none 0 0) [] := OwnS.nil h _ _
theorem OK.more {h h' : Heap} {v : Value} {l : List (List UInt8)} (o : OK h v l) (e : ExtH h h') : OK h' v l := OwnS.more o e
theorem append_k {h : Heap} {v x : Value} {l m : List (List UInt8)} {ty : TypeId} (hd : OK h v l) (hs : RK h x m) (hl : l.length + m.length ≤ 1000000000000) :
    RunsV Try.prog (Builtin.append_ #[56, 56] ty #[v, x]) h fun v' h' => OK h' v' (l ++ m) ∧ Chg (ob v) h h' ∧ ∀ b, ob v' b → ob v b ∨ h.size ≤ b := by
  obtain ⟨i0, hi, hz0, hz1, hz2⟩ := info_parts infoD
  have := append_own (P := Try.prog) (t := 56) (ty := ty) (e := 29) rfl hi hz0 (by rw [hz1]; rfl) hz1 hd hs (fun u hu => by
    obtain ⟨k, _, h⟩ := List.mem_flatMap.1 hu
    obtain ⟨_, _, rfl⟩ := List.mem_map.1 h
    rfl) (by unfold maxLen; omega) (by rw [hz2]; omega)
  refine this.mono fun v' h' ⟨h1, h2, h3⟩ => ⟨?_, h2, h3⟩
  unfold OK
  rw [show digC (l ++ m) = digC l ++ digC m by unfold digC; rw [List.flatMap_append], List.length_append]
  exact h1
theorem build_k {k : List UInt8} (hk : k.length = 32) (wd : World) : (Instr.buildSlice 56 1 #[(0, .agg (k.map u8v).toArray)]).run Try.prog wd = .ok (.slice (some ⟨wd.heap.size, 0, none⟩) 1 1) (wd.alloc (.cells (k.map u8v).toArray 29)) := by
  obtain ⟨i0, hi, hz0, hz1, hz2⟩ := info_parts infoD
  exact build_one (P := Try.prog) (t := 56) (e := 29) (v := .agg (k.map u8v).toArray) rfl hi hz0 (by omega) (by omega) (by rw [hz1]; show (k.map u8v).length = 32; rw [List.length_map, hk]) wd
theorem RK.of_one {h h' : Heap} {k : List UInt8} (n : Newed h h' (.cells (k.map u8v).toArray 29)) (hk : k.length = 32) : RK h' (.slice (some ⟨h.size, 0, none⟩) 1 1) [k] := by
  refine OwnS.src (e := 29) ⟨by simp [digC, hk], .inr ⟨h.size, 1, [], rfl, ?_, by simp, by decide, by simp [digC, hk]⟩⟩
  have := n.blk
  simpa [digC] using this
/-- bytes that are read -/
def RB (h : Heap) (v : Value) (l : List UInt8) : Prop := Src h 1 v l.length (l.map u8v)
theorem RB.more {h h' : Heap} {v : Value} {l : List UInt8} (r : RB h v l) (e : ExtH h h') : RB h' v l := Src.more r e
theorem RB.fix {h : Heap} {v : Value} {l : List UInt8} (r : RB h v l) : ∃ a c, v = .slice a l.length c ∧ l.length ≤ maxLen := by
  obtain ⟨a, c, e, h1, h2⟩ := Src.form r
  exact ⟨a, c, e, by omega⟩
theorem RB.get {h : Heap} {a : Option Addr} {n c : Nat} {l : List UInt8} (r : RB h (.slice a n c) l) (t : Nat) (k : UInt8) (hk : l[t]? = some k) : ∃ b o, a = some ⟨b, o, none⟩ ∧ rd h ⟨b, o + t, none⟩ = some (u8v k) := by
  have hlt := (List.getElem?_eq_some_iff.1 hk).1
  rcases r.2 with ⟨h1, h2⟩ | ⟨A, cap, h1, hc, hm, hr⟩
  · omega
  · injection h1 with h1
    have hne : l.map u8v ≠ [] := by intro e; simp at e; subst e; simp at hlt
    have hs := hr.spot hne
    rw [hs, rdA_plain] at hr
    refine ⟨A.block, A.off, by rw [← hs]; exact h1, hr t _ ?_⟩
    rw [List.getElem?_map, hk]
    rfl
theorem keys_fn {h : Heap} {v : Value} {l : List UInt8} (r : RB h v l) (hl : l.length ≤ 1000000000) :
    Fx Try.prog 20 #[v] h fun u h' => OK h' u (l.map kd) ∧ ExtH h h' ∧ ∀ b, ob u b → h.size ≤ b := by
  refine fn_of 20 Try.func20 rfl (by kernel_rfl) rfl (by simp) ?_
  obtain ⟨a, c, e, hm⟩ := r.fix
  have hmax : maxLen < 9223372036854775808 := by decide
  subst e
  refine cw_seq (cw_region rfl ?_)
  refine cw_seq (cw_region rfl ?_)
  refine cw_seq (cw_seq (cw_region rfl ?_))
  refine cw_block ?_
  refine cw_loop (S := Nat × Value) (fun s => match s with | (t, u) => [(0, .slice a l.length c), (3, u), (4, .int .i64 (t : Int))])
    (fun s h' => s.1 ≤ l.length ∧ ExtH h h' ∧ OK h' s.2 ((l.take s.1).map kd) ∧ ∀ b, ob s.2 b → h.size ≤ b) (fun s => l.length - s.1) (0, .slice none 0 0) ⟨rfl, rfl, rfl, trivial⟩ ⟨by show 0 ≤ _; omega, ExtH.refl _, OK.nil h, fun b hb => (ob_nil hb).elim⟩ ?_
  rintro ⟨t, u⟩ h1 ⟨ht, x1, o1, f1⟩
  simp only at ht o1 f1
  obtain ⟨la, lc, hle, _⟩ := (OwnS.src o1).form
  subst hle
  refine cw_seq (cw_seq (cw_region rfl ?_))
  conv => whnf
  by_cases hlt : t < l.length
  · refine cw_yes rfl (by show (t : Int) < _; omega) (cw_skip ?_)
    have hk : l[t]? = some l[t] := List.getElem?_eq_getElem hlt
    generalize l[t] = k at hk
    obtain ⟨b, o, rfl, hr⟩ := (r.more x1).get t k hk
    have htk : (l.take (t + 1)).map kd = (l.take t).map kd ++ [kd k] := by rw [List.take_add_one, hk]; simp
    have hlen : ((l.take t).map kd).length ≤ t := by simp; omega
    refine cw_seq (cw_block (cw_region rfl ?_))
    conv => whnf
    refine ⟨⟨by omega, by omega⟩, ?_⟩
    conv => whnf
    refine ⟨_, by rwa [show o + t = o + ((t : Int)).toNat by omega] at hr, ?_⟩
    conv => whnf
    refine ⟨_, rfl, _, key_fn k h1, ?_⟩
    rintro _ h2 ⟨rfl, x2⟩
    conv => whnf
    refine ⟨_, rfl, ((kd k).map u8v).toArray, 29, fun wd => build_k (kd_length k) wd, ?_⟩
    intro h3 n3
    conv => whnf
    have x13 := x2.trans n3.ext
    refine ⟨_, rfl, _, append_k (ty := 56) (o1.more x13) (RK.of_one n3 (kd_length k)) (by show ((l.take t).map kd).length + 1 ≤ _; omega), ?_⟩
    rintro v4 h4 ⟨o4, c4, f4⟩
    have z13 := x13.size
    have z1 := x1.size
    have z4 := c4.size
    refine cw_region rfl ?_
    exact ⟨(t + 1, v4), ⟨rfl, rfl, slot_i64 _ _ (by simp) (by show t + 1 < _; omega), trivial⟩, ⟨by show t + 1 ≤ _; omega, ⟨by omega, fun b hb => by rw [c4.block b (by omega) (fun e => by have := f1 b e; omega), (x1.trans x13).block b hb]⟩, by rw [htk]; exact o4, fun b hb => (f4 b hb).elim (f1 b) (fun e => by omega)⟩, by show l.length - (t + 1) < l.length - t; omega⟩
  · refine cw_no rfl (by show ¬ (t : Int) < _; omega) (cw_exit ?_)
    have tn : t = l.length := by omega
    subst tn
    rw [List.take_length] at o1 f1
    rw [List.take_length]
    refine cw_seq (cw_region rfl ?_)
    exact cw_ret ⟨o1, x1, f1⟩
end Go.Proofs.Ytcmjgkjnnmfijaa
