/-
  The contracts of the laws' lived and awake.
-/
import Derived.Test.YtcmjgkjnnmfijaaPoolInv
namespace Go.Proofs.Ytcmjgkjnnmfijaa
open Go Vm
set_option maxRecDepth 100000
set_option linter.unusedVariables false
def opsC (os : List (Opv × Value)) : List Value := os.flatMap fun x => opC x.1 x.2
theorem opsC_length : ∀ os : List (Opv × Value), (opsC os).length = os.length * 5
  | [] => rfl
  | x :: os => by
    have := opsC_length os
    show (opC x.1 x.2 ++ opsC os).length = _
    rw [List.length_append, this, List.length_cons]
    simp [opC]
    omega
theorem opsC_at {os : List (Opv × Value)} {i : Nat} {x : Opv × Value} (hx : os[i]? = some x) (k : Nat) (u : Value) (hu : (opC x.1 x.2)[k]? = some u) : (opsC os)[i * 5 + k]? = some u := by
  induction os generalizing i with
  | nil => simp at hx
  | cons y os ih =>
    show (opC y.1 y.2 ++ opsC os)[i * 5 + k]? = some u
    cases i with
    | zero =>
      simp at hx
      subst hx
      have := (List.getElem?_eq_some_iff.1 hu).1
      rw [List.getElem?_append_left (by omega)]
      simpa using hu
    | succ i =>
      have hl : (opC y.1 y.2).length = 5 := rfl
      rw [List.getElem?_append_right (by omega), hl, show (i + 1) * 5 + k - 5 = i * 5 + k by omega]
      exact ih (by simpa using hx)
/-- calls that are read -/
structure RO (h : Heap) (v : Value) (os : List (Opv × Value)) : Prop where
  src : Src h 5 v os.length (opsC os)
  ks : ∀ x ∈ os, RB h x.2 x.1.ks
  small : os.length ≤ 10000000
  kss : ∀ x ∈ os, x.1.ks.length ≤ 10000000
theorem RO.more {h h' : Heap} {v : Value} {os : List (Opv × Value)} (r : RO h v os) (e : ExtH h h') : RO h' v os := ⟨Src.more r.src e, fun x hx => (r.ks x hx).more e, r.small, r.kss⟩
theorem RO.fix {h : Heap} {v : Value} {os : List (Opv × Value)} (r : RO h v os) : ∃ a c, v = .slice a os.length c ∧ os.length ≤ maxLen := by
  obtain ⟨a, c, e, h1, h2⟩ := Src.form r.src
  exact ⟨a, c, e, by omega⟩
theorem RO.get {h : Heap} {a : Option Addr} {n c : Nat} {os : List (Opv × Value)} (r : RO h (.slice a n c) os) (t : Nat) (x : Opv × Value) (hx : os[t]? = some x) : ∃ b o, a = some ⟨b, o, none⟩ ∧ rdN h b (o + t * 5) (opC x.1 x.2) := by
  have hlt := (List.getElem?_eq_some_iff.1 hx).1
  rcases r.src.2 with ⟨h1, h2⟩ | ⟨A, cap, h1, hc, hm, hr⟩
  · omega
  · injection h1 with h1
    have hne : opsC os ≠ [] := by
      intro e
      have := opsC_length os
      rw [e] at this
      simp only [List.length_nil] at this
      omega
    have hs := hr.spot hne
    rw [hs, rdA_plain] at hr
    refine ⟨A.block, A.off, by rw [← hs]; exact h1, fun k u hu => ?_⟩
    rw [Nat.add_assoc]
    exact hr (t * 5 + k) u (opsC_at hx k u hu)
def ops1 (os : List (Opv × Value)) : List Opv := os.map Prod.fst
theorem lived_take (wk sl id : Int) (ws : List Wk) (os : List (Opv × Value)) (t : Nat) (x : Opv × Value) (hx : os[t]? = some x) : livedS wk sl id ws (ops1 (os.take (t + 1))) = (askS wk sl id (livedS wk sl id ws (ops1 (os.take t))) x.1).1 := by
  rw [List.take_add_one, hx]
  unfold ops1 livedS
  rw [List.map_append, List.foldl_append]
  rfl
/-- a pool of our own: made behind h0 -/
structure PoolNew (h0 h : Heap) (p : Nat) (v : Value) (wk sl id : Int) (ws : List Wk) : Prop where
  at_ : PoolAt h p v wk sl id ws
  ext : ExtH h0 h
  p : h0.size ≤ p
  v : ∀ b, ob v b → h0.size ≤ b
theorem PoolNew.more {h0 h h' : Heap} {p : Nat} {v : Value} {wk sl id : Int} {ws : List Wk} (A : PoolNew h0 h p v wk sl id ws) (e : ExtH h h') : PoolNew h0 h' p v wk sl id ws := ⟨A.at_.more e, A.ext.trans e, A.p, A.v⟩
theorem PoolNew.turn {h0 h h' : Heap} {p : Nat} {v v' : Value} {wk sl id : Int} {ws ws' : List Wk} (A : PoolNew h0 h p v wk sl id ws) (A' : PoolAt h' p v' wk sl id ws') (t : Turned h h' p v v') : PoolNew h0 h' p v' wk sl id ws' := by
  refine ⟨A', ⟨by have := A.ext.size; have := t.1.size; omega, fun b hb => ?_⟩, A.p, fun b hb => ?_⟩
  · have h1 := A.ext.size
    have h2 := A.p
    rw [t.1.block b (by omega) (fun e => by
      rcases e with e | e
      · omega
      · have := A.v b e; omega), A.ext.block b hb]
  · have h1 := A.ext.size
    rcases t.2 b hb with e | e
    · exact A.v b e
    · omega
theorem lived_yes {h : Heap} {ov : Value} {os : List (Opv × Value)} (wk sl id : Int) (hl : okLim wk sl id) (r : RO h ov os) :
    Fx Try.prog 10 #[.agg #[.int .i64 wk, .int .i64 sl, .int .i64 id], ov] h fun u h' => ∃ p v, u = .pointer (some ⟨p, 0, none⟩) ∧ PoolNew h h' p v wk sl id (livedS wk sl id [] (ops1 os)) := by
  refine fn_of 33 Try.func10 rfl (by kernel_rfl) rfl (by simp) ?_
  obtain ⟨oa, oc, hoe, hom⟩ := r.fix
  subst hoe
  have hmax : maxLen < 9223372036854775808 := by decide
  refine cw_seq (cw_region rfl ?_)
  conv => whnf
  intro ha na
  have ya : Blk ha h.size [.int .i64 wk, .int .i64 sl, .int .i64 id] 23 := na.blk
  have xa := na.ext
  have za := na.size
  clear na
  refine cw_seq (cw_region rfl ?_)
  conv => whnf
  refine ⟨_, ya.rd (o := 0) rfl, ?_⟩
  conv => whnf
  refine ⟨_, ya.rd (o := 1) rfl, ?_⟩
  conv => whnf
  refine ⟨_, ya.rd (o := 2) rfl, ?_⟩
  conv => whnf
  refine ⟨_, rfl, _, new_yes wk sl id hl ha, ?_⟩
  rintro _ h1 ⟨rfl, A1, x1⟩
  conv => whnf
  refine cw_seq (cw_seq (cw_region rfl ?_))
  refine cw_false rfl (cw_skip ?_)
  refine cw_seq (cw_seq (cw_region rfl ?_))
  refine cw_block ?_
  refine cw_loop (S := Nat) (fun t => [(1, .slice oa os.length oc), (5, .pointer (some ⟨ha.size, 0, none⟩)), (7, .int .i64 (t : Int))])
    (fun t h' => t ≤ os.length ∧ ∃ v, PoolNew h h' ha.size v wk sl id (livedS wk sl id [] (ops1 (os.take t)))) (fun t => os.length - t) 0 ⟨rfl, rfl, rfl, trivial⟩
    ⟨by omega, _, A1, xa.trans x1, by omega, fun b hb => (ob_nil hb).elim⟩ ?_
  rintro t h2 ⟨ht, v, N⟩
  refine cw_seq (cw_seq (cw_region rfl ?_))
  conv => whnf
  by_cases hlt : t < os.length
  · refine cw_yes rfl (by show (t : Int) < _; omega) (cw_skip ?_)
    have hx : os[t]? = some os[t] := List.getElem?_eq_getElem hlt
    generalize os[t] = x at hx
    have hstep := lived_take wk sl id [] os t x hx
    have I := (Inv.nil hl).lived (ops1 (os.take t))
    have hlen := lived_length wk sl id [] (ops1 (os.take t))
    have hlen2 : (ops1 (os.take t)).length ≤ 10000000 := by
      unfold ops1
      rw [List.length_map, List.length_take]
      have := r.small
      omega
    generalize livedS wk sl id [] (ops1 (os.take t)) = ws at N hstep I hlen
    obtain ⟨b, o, rfl, hr⟩ := (r.more N.ext).get t x hx
    have hxm := List.mem_of_getElem? hx
    refine cw_seq (cw_block (cw_region rfl ?_))
    conv => whnf
    refine ⟨⟨by omega, by omega⟩, ?_⟩
    conv => whnf
    refine ⟨opC x.1 x.2, rfl, by rwa [show o + t * 5 = o + ((t : Int)).toNat * 5 by omega] at hr, ?_⟩
    conv => whnf
    refine ⟨_, rfl, _, asks_fn x.1 N.at_ I (by simp only [List.length_nil] at hlen; omega) ((r.ks x hxm).more N.ext) (by have := r.kss x hxm; omega), ?_⟩
    rintro _ h3 ⟨v', lv, rfl, A3, t3, o3, f3⟩
    have N3 := N.turn A3 t3
    rw [← hstep] at N3
    refine cw_region rfl ?_
    exact ⟨t + 1, ⟨rfl, rfl, slot_i64 _ _ (by omega) (by omega), trivial⟩, ⟨by omega, v', N3⟩, by omega⟩
  · refine cw_no rfl (by show ¬ (t : Int) < _; omega) (cw_exit ?_)
    have tn : t = os.length := by omega
    subst tn
    rw [List.take_length] at N
    refine cw_seq (cw_region rfl ?_)
    exact cw_ret ⟨_, v, rfl, N⟩
theorem lived_no {h : Heap} {ov : Value} {os : List (Opv × Value)} (wk sl id : Int) (hl : ¬ okLim wk sl id) (r : RO h ov os) :
    Fx Try.prog 10 #[.agg #[.int .i64 wk, .int .i64 sl, .int .i64 id], ov] h fun u h' => u = .pointer none ∧ ExtH h h' := by
  refine fn_of 33 Try.func10 rfl (by kernel_rfl) rfl (by simp) ?_
  obtain ⟨oa, oc, hoe, hom⟩ := r.fix
  subst hoe
  refine cw_seq (cw_region rfl ?_)
  conv => whnf
  intro ha na
  have ya : Blk ha h.size [.int .i64 wk, .int .i64 sl, .int .i64 id] 23 := na.blk
  have xa := na.ext
  refine cw_seq (cw_region rfl ?_)
  conv => whnf
  refine ⟨_, ya.rd (o := 0) rfl, ?_⟩
  conv => whnf
  refine ⟨_, ya.rd (o := 1) rfl, ?_⟩
  conv => whnf
  refine ⟨_, ya.rd (o := 2) rfl, ?_⟩
  conv => whnf
  refine ⟨_, rfl, _, new_no wk sl id hl ha, ?_⟩
  rintro _ h1 ⟨rfl, rfl⟩
  conv => whnf
  refine cw_seq (cw_seq (cw_region rfl ?_))
  refine cw_true rfl ?_
  refine cw_seq (cw_region rfl ?_)
  exact cw_ret ⟨rfl, xa⟩
theorem awake_fn (h : Heap) : Fx Try.prog 11 #[] h fun u h' => u = .bool true ∧ ExtH h h' := by
  refine fn_of 65 Try.func11 rfl (by kernel_rfl) rfl (by simp) ?_
  have hl : okLim 2 1 2 := by decide
  refine cw_seq (cw_region rfl ?_)
  refine cw_seq (cw_region rfl ?_)
  conv => whnf
  refine ⟨_, rfl, _, new_yes 2 1 2 hl h, ?_⟩
  rintro _ h1 ⟨rfl, A1, x1⟩
  have N1 : PoolNew h h1 h.size (.slice none 0 0) 2 1 2 [] := ⟨A1, x1, Nat.le_refl _, fun b hb => (ob_nil hb).elim⟩
  have I1 : Inv 2 1 2 [] := Inv.nil hl
  conv => whnf
  refine cw_seq (cw_seq (cw_region rfl ?_))
  conv => whnf
  refine ⟨.bool false, fun w => by kernel_rfl, ?_⟩
  conv => whnf
  refine cw_false rfl (cw_skip ?_)
  refine cw_seq (cw_region rfl ?_)
  conv => whnf
  refine ⟨_, rfl, ((kd 1).map u8v).toArray, fun w => by kernel_rfl, ?_⟩
  conv => whnf
  refine ⟨_, rfl, _, start_fn (kd 1) (kd_length 1) 1 A1 (by decide) (by decide), ?_⟩
  rintro _ h2 ⟨rfl, v2, A2, t2⟩
  have N2 := N1.turn A2 t2
  have I2 := I1.start (kd 1) 1
  have e2 : startS 2 1 [] (kd 1) 1 = ([⟨1, 1, 1, kd 1, 0, 0⟩], 1, 0) := by decide
  rw [e2] at A2 N2 I2
  rw [e2]
  conv => whnf
  refine cw_seq (cw_region rfl ?_)
  conv => whnf
  refine ⟨_, rfl, _, hello_fn 1 A2 (by decide), ?_⟩
  rintro _ h3 ⟨rfl, A3, c3⟩
  have N3 := N2.turn A3 (Turned.of_chg c3)
  have I3 := I2.hello 1
  have e3 : helloS [⟨1, 1, 1, kd 1, 0, 0⟩] 1 = ([⟨1, 2, 1, kd 1, 0, 0⟩], 0) := by decide
  rw [e3] at A3 N3 I3
  rw [e3]
  conv => whnf
  refine cw_seq (cw_region rfl ?_)
  conv => whnf
  refine ⟨_, rfl, ((kd 1).map u8v).toArray, fun w => by kernel_rfl, ?_⟩
  conv => whnf
  refine ⟨_, rfl, _, pick_fn (kd 1) (kd_length 1) A3 (by decide), ?_⟩
  rintro _ h4 ⟨rfl, x4⟩
  have N4 := N3.more x4
  have e4 : (pickB (kd 1) [⟨1, 2, 1, kd 1, 0, 0⟩]).n = 1 := by decide
  rw [e4]
  conv => whnf
  refine cw_seq (cw_region rfl ?_)
  conv => whnf
  refine ⟨_, rfl, _, send_fn 1 N4.at_ I3, ?_⟩
  rintro _ h5 ⟨rfl, A5, c5⟩
  have N5 := N4.turn A5 (Turned.of_chg c5)
  have I5 := I3.send 1
  have e5 : sendS [⟨1, 2, 1, kd 1, 0, 0⟩] 1 = ([⟨1, 3, 1, kd 1, 1, 0⟩], 0) := by decide
  rw [e5] at A5 N5 I5
  rw [e5]
  conv => whnf
  refine ⟨_, rfl, _, send_fn 1 A5 I5, ?_⟩
  rintro _ h6 ⟨rfl, A6, c6⟩
  have N6 := N5.turn A6 (Turned.of_chg c6)
  have e6 : sendS [⟨1, 3, 1, kd 1, 1, 0⟩] 1 = ([⟨1, 3, 1, kd 1, 1, 0⟩], 7) := by decide
  rw [e6] at A6 N6
  rw [e6]
  conv => whnf
  refine ⟨_, rfl, _, live_fn A6 (by decide), ?_⟩
  rintro _ h7 ⟨rfl, x7⟩
  have e7 : (([⟨1, 3, 1, kd 1, 1, 0⟩] : List Wk).countP isLive) = 1 := by decide
  rw [e7]
  conv => whnf
  exact cw_ret ⟨rfl, (N6.more x7).ext⟩
end Go.Proofs.Ytcmjgkjnnmfijaa
