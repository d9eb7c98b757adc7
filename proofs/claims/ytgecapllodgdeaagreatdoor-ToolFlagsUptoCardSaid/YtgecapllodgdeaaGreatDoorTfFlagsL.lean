/-
  The document's Flags.
  Flags: the program's answer is the document's (plain law).
-/
import Derived.Test.YtgecapllodgdeaaGreatDoorTfFlags
namespace Go.Proofs.YtgecapllodgdeaaGreatDoor
open Go Vm
set_option maxRecDepth 100000
set_option linter.unusedVariables false
set_option linter.unusedSimpArgs false
structure FS where
  t : Tl
  d : Nat → Bool
  kn : Bool
def wd (k : Nat) : List UInt8 := if k = 0 then wSlots ++ [61] else if k = 1 then wMemo ++ [61] else wRoom ++ [61]
def setT (t : Tl) (k : Nat) (n : Int) : Tl := if k = 0 then { t with s := n } else if k = 1 then { t with m := n } else { t with r := n }
def rk (s : List UInt8) (k : Nat) (x : FS) : FS := if (flagS s (wd k)).2 = false ∨ x.d k = true then x else ⟨setT x.t k (flagS s (wd k)).1, fun j => if j = k then true else x.d j, true⟩
def rkN (s : List UInt8) : Nat → FS → FS
  | 0, x => x
  | k + 1, x => rk s k (rkN s k x)
def rflags : List (List UInt8) → FS → Option FS
  | [], x => some x
  | s :: l, x => if (rkN s 3 { x with kn := false }).kn then rflags l (rkN s 3 { x with kn := false }) else none
def flagsR (l : List (List UInt8)) : Tl × Int :=
  match rflags l ⟨t0, fun _ => false, false⟩ with
  | none => (tz, 250)
  | some x => if mayS x.t then (x.t, 0) else (tz, 250)
def dC (d : Nat → Bool) : List Value := [.bool (d 0), .bool (d 1), .bool (d 2)]
theorem dC_at (d : Nat → Bool) (k : Nat) (h : k < 3) : (dC d)[k]? = some (.bool (d k)) := by
  rcases (show k = 0 ∨ k = 1 ∨ k = 2 by omega) with rfl | rfl | rfl <;> rfl
theorem dC_set (d : Nat → Bool) (k : Nat) (h : k < 3) : (dC d).set k (.bool true) = dC fun j => if j = k then true else d j := by
  rcases (show k = 0 ∨ k = 1 ∨ k = 2 by omega) with rfl | rfl | rfl <;> rfl
def wdC : List Value := [strv (wd 0), strv (wd 1), strv (wd 2)]
theorem wdC_at (k : Nat) (h : k < 3) : wdC[k]? = some (strv (wd k)) := by
  rcases (show k = 0 ∨ k = 1 ∨ k = 2 by omega) with rfl | rfl | rfl <;> rfl
theorem wd_len (k : Nat) : (wd k).length ≤ 1000 := by unfold wd; split; decide; split <;> decide
theorem rflags_fn {h : Heap} {v : Value} {l : List (List UInt8)} (G : Gl h) (r : RT h v l) (hl : l.length ≤ 1000000000) (hs : ∀ s ∈ l, s.length ≤ 1000000000) :
    Fx Tryz.prog 5 #[v] h fun u h' => u = .tuple #[.agg (tlC (flagsR l).1).toArray, .int .i64 (flagsR l).2] ∧ ExtH h h' := by
  refine fn_of 66 Tryz.func5 rfl (by kernel_rfl) rfl (by simp) ?_
  obtain ⟨va, vc, hve, hvm⟩ := r.fix
  subst hve
  unfold flagsR
  generalize hres : rflags l ⟨t0, fun _ => false, false⟩ = res
  refine cw_seq (cw_go rfl ?_)
  intro h1 n1
  conv => whnf
  have y1 : Blk h1 h.size (tlC tz) 24 := n1.blk
  have x1 := n1.ext
  have z1 := n1.size
  clear n1
  refine cw_seq (cw_go rfl ?_)
  conv => whnf
  refine ⟨_, rfl, #[.int .i64 4, .int .i64 64, .int .i64 65536], fun w => by kernel_rfl, ?_⟩
  conv => whnf
  intro h2 n2
  conv => whnf
  have y2 : Blk h2 h1.size (tlC tz) 24 := n2.blk
  refine store_tl (u := t0) y2 ?_
  intro h3 w3
  have y3 := w3.new
  have z2 := n2.size
  have z3 := w3.size
  have x13 : ExtH h1 h3 := ⟨by omega, fun b hb => by rw [w3.block b (by omega), n2.block b hb]⟩
  have y1' := x13.blk y1
  clear n2 w3 y2
  refine cw_seq (cw_go rfl ?_)
  conv => whnf
  intro h4 n4
  have d4 : Blk h4 h3.size (dC fun _ => false) 66 := n4.blk
  have z4 := n4.size
  refine cw_seq (cw_go rfl ?_)
  conv => whnf
  refine ⟨_, rfl, #[strv (wd 0), strv (wd 1), strv (wd 2)], 9, fun w => by kernel_rfl, ?_⟩
  conv => whnf
  intro h5 n5
  have w5 : Blk h5 h4.size wdC 9 := n5.blk
  have d5 := n5.ext.blk d4
  have yt5 := n5.ext.blk (n4.ext.blk y3)
  have yr5 := n5.ext.blk (n4.ext.blk y1')
  have x5 : ExtH h h5 := ((x1.trans x13).trans n4.ext).trans n5.ext
  have hrb : h.size ≤ h.size := Nat.le_refl _
  have htb : h.size ≤ h1.size := by omega
  have hdb : h.size ≤ h3.size := by omega
  have n1 : h.size ≠ h1.size := by omega
  have n2 : h.size ≠ h3.size := by omega
  have n3 : h1.size ≠ h3.size := by omega
  have n4' : h4.size ≠ h1.size := by omega
  have n5' : h4.size ≠ h3.size := by omega
  clear n4 n5 y1 y1' y3 x13 x1 d4
  generalize h4.size = wb at *
  generalize h3.size = db at *
  generalize h1.size = tb at *
  generalize hr : h.size = rb at yr5 n1 n2
  replace hrb : h.size ≤ rb := by omega
  conv => whnf
  refine cw_seq (cw_seq (cw_go rfl ?_))
  conv => whnf
  refine cw_block ?_
  refine cw_loop (S := Nat × FS) (fun s => [(0, .slice va l.length vc), (2, .pointer (some ⟨rb, 0, none⟩)), (4, .pointer (some ⟨tb, 0, none⟩)), (5, .pointer (some ⟨db, 0, none⟩)), (6, .slice (some ⟨wb, 0, none⟩) 3 3), (7, .int .i64 (s.1 : Int))])
    (fun s h' => s.1 ≤ l.length ∧ Blk h' rb (tlC tz) 24 ∧ Blk h' tb (tlC s.2.t) 24 ∧ Blk h' db (dC s.2.d) 66 ∧ Blk h' wb wdC 9 ∧ res = rflags (l.drop s.1) s.2 ∧ ExtH h h') (fun s => l.length - s.1) (0, ⟨t0, fun _ => false, false⟩) ⟨rfl, rfl, rfl, rfl, rfl, rfl, trivial⟩
    ⟨by show 0 ≤ _; omega, yr5, yt5, d5, w5, hres.symm, x5⟩ ?_
  clear yr5 yt5 d5 w5 x5 hres
  rintro ⟨t, x⟩ h5 ⟨ht, yr, yt, yd, yw, hres, x5⟩
  simp only at ht yr yt yd hres
  refine cw_seq (cw_seq (cw_go rfl ?_))
  conv => whnf
  by_cases hlt : t < l.length
  · refine say_t (by omega) ?_
    refine cw_true rfl (cw_skip ?_)
    rw [drop_getD l t [] hlt] at hres
    unfold rflags at hres
    have hsl : (l.getD t []).length ≤ 1000000000 := by
      rw [List.getD_eq_getElem?_getD, List.getElem?_eq_getElem hlt]; exact hs _ (List.getElem_mem hlt)
    obtain ⟨b, o, rfl, hrd⟩ := r.get t hlt
    generalize l.getD t [] = s at hres hsl hrd
    refine cw_seq (cw_block ?_)
    refine cw_seq (cw_go rfl ?_)
    conv => whnf
    refine cw_seq (cw_seq (cw_go rfl ?_))
    conv => whnf
    refine cw_block ?_
    refine cw_loop (S := Nat) (fun k => [(0, .slice (some ⟨b, o, none⟩) l.length vc), (2, .pointer (some ⟨rb, 0, none⟩)), (4, .pointer (some ⟨tb, 0, none⟩)), (5, .pointer (some ⟨db, 0, none⟩)), (6, .slice (some ⟨wb, 0, none⟩) 3 3), (7, .int .i64 (t : Int)), (8, .bool (rkN s k { x with kn := false }).kn), (9, .int .i64 (k : Int))])
      (fun k h' => k ≤ 3 ∧ Blk h' rb (tlC tz) 24 ∧ Blk h' tb (tlC (rkN s k { x with kn := false }).t) 24 ∧ Blk h' db (dC (rkN s k { x with kn := false }).d) 66 ∧ Blk h' wb wdC 9 ∧ ExtH h h') (fun k => 3 - k) 0 ⟨rfl, rfl, rfl, rfl, rfl, rfl, rfl, rfl, trivial⟩
      ⟨by decide, yr, yt, yd, yw, x5⟩ ?_
    clear yr yt yd yw x5
    rintro k h6 ⟨hk, yr, yt, yd, yw, x6⟩
    refine cw_seq (cw_seq (cw_go rfl ?_))
    conv => whnf
    by_cases hk3 : k < 3
    · refine say_t (by omega) ?_
      refine cw_true rfl (cw_skip ?_)
      have hy : rkN s (k + 1) { x with kn := false } = rk s k (rkN s k { x with kn := false }) := rfl
      unfold rk at hy
      generalize rkN s k { x with kn := false } = y at *
      refine cw_seq (cw_block ?_)
      refine cw_seq (cw_dgo (by kernel_rfl) 13 (List.range 13) (by kernel_rfl) rfl ?_)
      conv => whnf
      refine And.intro ⟨by omega, by omega⟩ ?_
      conv => whnf
      refine ⟨_, by rw [show ((t : Int)).toNat = t by omega]; exact rd_up x6 hrd, ?_⟩
      conv => whnf
      refine And.intro ⟨by omega, by omega⟩ ?_
      conv => whnf
      refine ⟨_, yw.rd (by rw [show 0 + ((k : Int)).toNat = k by omega]; exact wdC_at k hk3), ?_⟩
      conv => whnf
      refine ⟨_, rfl, _, (fun h1 e => flag_fn s (wd k) ((G.more x6).more e) hsl (wd_len k)), ?_⟩
      conv => whnf
      intro h7 e7
      have yr7 := e7.blk yr
      have yt7 := e7.blk yt
      have yd7 := e7.blk yd
      have yw7 := e7.blk yw
      have x7 := x6.trans e7
      clear yr yt yd yw x6 e7
      conv => whnf
      cases hok : (flagS s (wd k)).2 with
      | false =>
        refine cw_seq (cw_seq (cw_go rfl ?_))
        conv => whnf
        rw [if_pos (.inl hok)] at hy
        conv => whnf
        refine cw_true rfl (cw_exit ?_)
        conv => whnf
        refine cw_go rfl ?_
        conv => whnf
        refine say_i (by omega) ?_
        conv => whnf
        exact ⟨k + 1, ⟨rfl, rfl, rfl, rfl, rfl, rfl, by rw [hy]; rfl, rfl, trivial⟩, ⟨by omega, yr7, by rw [hy]; exact yt7, by rw [hy]; exact yd7, yw7, x7⟩, by omega⟩
      | true =>
        refine cw_seq (cw_seq (cw_go rfl ?_))
        conv => whnf
        refine And.intro ⟨by omega, by omega⟩ ?_
        conv => whnf
        refine ⟨_, yd7.rd (by rw [show 0 + ((k : Int)).toNat = k by omega]; exact dC_at y.d k hk3), ?_⟩
        cases hd : y.d k with
        | true =>
          rw [if_pos (.inr hd)] at hy
          conv => whnf
          refine cw_true rfl (cw_exit ?_)
          conv => whnf
          refine cw_go rfl ?_
          conv => whnf
          refine say_i (by omega) ?_
          conv => whnf
          exact ⟨k + 1, ⟨rfl, rfl, rfl, rfl, rfl, rfl, by rw [hy]; rfl, rfl, trivial⟩, ⟨by omega, yr7, by rw [hy]; exact yt7, by rw [hy]; exact yd7, yw7, x7⟩, by omega⟩
        | false =>
          rw [if_neg (by simp [hok, hd])] at hy
          conv => whnf
          refine cw_false rfl (cw_skip ?_)
          refine cw_seq (cw_go rfl ?_)
          conv => whnf
          refine And.intro ⟨by omega, by omega⟩ ?_
          conv => whnf
          refine ⟨_, _, yd7, by show 0 + ((k : Int)).toNat < 3; omega, ?_⟩
          intro h8 w8
          have yd8 : Blk h8 db (dC fun j => if j = k then true else y.d j) 66 := by
            have := w8.new
            rwa [show 0 + ((k : Int)).toNat = k by omega, dC_set y.d k hk3] at this
          have z8 := w8.size
          have yr8 := w8.blk yr7 n2
          have yt8 := w8.blk yt7 n3
          have yw8 := w8.blk yw7 n5'
          have x8 : ExtH h h8 := ⟨by have := x7.size; omega, fun b hb => by rw [w8.block b (by omega), x7.block b hb]⟩
          clear yr7 yt7 yd7 yw7 x7 w8
          conv => whnf
          refine cw_seq (cw_go rfl ?_)
          conv => whnf
          refine cw_block ?_
          refine cw_seq (cw_go rfl ?_)
          conv => whnf
          rcases (show k = 0 ∨ k = 1 ∨ k = 2 by omega) with rfl | rfl | rfl
          · refine say_t (by decide) ?_
            conv => whnf
            refine cw_true rfl ?_
            refine cw_go rfl ?_
            conv => whnf
            refine ⟨_, _, yt8, by show 0 < 3; decide, ?_⟩
            intro h9 w9
            have yt9 : Blk h9 tb (tlC (setT y.t 0 (flagS s (wd 0)).1)) 24 := w9.new
            have z9 := w9.size
            refine cw_go rfl ?_
            conv => whnf
            refine say_v ?_
            conv => whnf
            replace hy : rkN s 1 { x with kn := false } = ⟨setT y.t 0 (flagS s (wd 0)).1, fun j => if j = 0 then true else y.d j, true⟩ := hy
            exact ⟨1, ⟨rfl, rfl, rfl, rfl, rfl, rfl, by rw [hy]; rfl, rfl, trivial⟩, ⟨by decide, w9.blk yr8 n1, by rw [hy]; exact yt9, by rw [hy]; exact w9.blk yd8 n3.symm, w9.blk yw8 n4', ⟨by have := x8.size; omega, fun b hb => by rw [w9.block b (by omega), x8.block b hb]⟩⟩, by omega⟩
          · refine say_f (by decide) ?_
            conv => whnf
            refine cw_false rfl ?_
            refine cw_seq (cw_go rfl ?_)
            conv => whnf
            refine say_t (by decide) ?_
            conv => whnf
            refine cw_true rfl ?_
            refine cw_go rfl ?_
            conv => whnf
            refine ⟨_, _, yt8, by show 1 < 3; decide, ?_⟩
            intro h9 w9
            have yt9 : Blk h9 tb (tlC (setT y.t 1 (flagS s (wd 1)).1)) 24 := w9.new
            have z9 := w9.size
            refine cw_go rfl ?_
            conv => whnf
            refine say_v ?_
            conv => whnf
            replace hy : rkN s 2 { x with kn := false } = ⟨setT y.t 1 (flagS s (wd 1)).1, fun j => if j = 1 then true else y.d j, true⟩ := hy
            exact ⟨2, ⟨rfl, rfl, rfl, rfl, rfl, rfl, by rw [hy]; rfl, rfl, trivial⟩, ⟨by decide, w9.blk yr8 n1, by rw [hy]; exact yt9, by rw [hy]; exact w9.blk yd8 n3.symm, w9.blk yw8 n4', ⟨by have := x8.size; omega, fun b hb => by rw [w9.block b (by omega), x8.block b hb]⟩⟩, by omega⟩
          · refine say_f (by decide) ?_
            conv => whnf
            refine cw_false rfl ?_
            refine cw_seq (cw_go rfl ?_)
            conv => whnf
            refine say_f (by decide) ?_
            conv => whnf
            refine cw_false rfl ?_
            refine cw_seq (cw_go rfl ?_)
            conv => whnf
            refine say_t (by decide) ?_
            conv => whnf
            refine cw_true rfl ?_
            refine cw_go rfl ?_
            conv => whnf
            refine ⟨_, _, yt8, by show 2 < 3; decide, ?_⟩
            intro h9 w9
            have yt9 : Blk h9 tb (tlC (setT y.t 2 (flagS s (wd 2)).1)) 24 := w9.new
            have z9 := w9.size
            refine cw_go rfl ?_
            conv => whnf
            refine say_v ?_
            conv => whnf
            replace hy : rkN s 3 { x with kn := false } = ⟨setT y.t 2 (flagS s (wd 2)).1, fun j => if j = 2 then true else y.d j, true⟩ := hy
            exact ⟨3, ⟨rfl, rfl, rfl, rfl, rfl, rfl, by rw [hy]; rfl, rfl, trivial⟩, ⟨by decide, w9.blk yr8 n1, by rw [hy]; exact yt9, by rw [hy]; exact w9.blk yd8 n3.symm, w9.blk yw8 n4', ⟨by have := x8.size; omega, fun b hb => by rw [w9.block b (by omega), x8.block b hb]⟩⟩, by omega⟩
    · refine say_f (by omega) ?_
      refine cw_false rfl (cw_exit ?_)
      have hk2 : k = 3 := by omega
      subst hk2
      refine cw_seq (cw_go rfl ?_)
      conv => whnf
      cases hkn : (rkN s 3 { x with kn := false }).kn with
      | false =>
        rw [hkn] at hres
        simp only [Bool.false_eq_true, if_false] at hres
        subst hres
        conv => whnf
        refine cw_true rfl ?_
        refine cw_seq (cw_go rfl ?_)
        conv => whnf
        refine ⟨_, rfl, #[.int .i64 0, .int .i64 0, .int .i64 0], fun w => by kernel_rfl, ?_⟩
        conv => whnf
        conv => whnf
        refine store_tl (u := tz) yr ?_
        intro h9 w9
        conv => whnf
        have z9 := w9.size
        exact cw_ret ⟨_, rfl, w9.new.all, rfl, ⟨by have := (x6).size; omega, fun b hb => by rw [w9.block b (by omega), (x6).block b hb]⟩⟩
      | true =>
        rw [hkn] at hres
        simp only [if_true] at hres
        conv => whnf
        refine cw_false rfl (cw_skip ?_)
        conv => whnf
        refine cw_go rfl ?_
        conv => whnf
        refine say_i (by omega) ?_
        conv => whnf
        exact ⟨(t + 1, rkN s 3 { x with kn := false }), ⟨rfl, rfl, rfl, rfl, rfl, rfl, trivial⟩, ⟨by show t + 1 ≤ _; omega, yr, yt, yd, yw, hres, x6⟩, by show l.length - (t + 1) < l.length - t; omega⟩
  · refine say_f (by omega) ?_
    refine cw_false rfl (cw_exit ?_)
    have ht2 : t = l.length := by omega
    subst ht2
    rw [List.drop_length] at hres
    unfold rflags at hres
    subst hres
    simp only
    refine cw_seq (cw_seq (cw_go rfl ?_))
    conv => whnf
    refine ⟨_, rfl, yt.all, ?_⟩
    conv => whnf
    refine ⟨_, rfl, _, rmay_fn x.t h5, ?_⟩
    rintro _ h6 ⟨rfl, x6⟩
    have yr6 := x6.blk yr
    have yt6 := x6.blk yt
    have x06 := x5.trans x6
    cases hm : mayS x.t
    · conv => whnf
      refine cw_true rfl ?_
      refine cw_seq (cw_go rfl ?_)
      conv => whnf
      refine ⟨_, rfl, #[.int .i64 0, .int .i64 0, .int .i64 0], fun w => by kernel_rfl, ?_⟩
      conv => whnf
      conv => whnf
      refine store_tl (u := tz) yr6 ?_
      intro h9 w9
      conv => whnf
      have z9 := w9.size
      exact cw_ret ⟨_, rfl, w9.new.all, rfl, ⟨by have := (x06).size; omega, fun b hb => by rw [w9.block b (by omega), (x06).block b hb]⟩⟩
    · conv => whnf
      refine cw_false rfl (cw_skip ?_)
      refine cw_seq (cw_go rfl ?_)
      conv => whnf
      refine ⟨_, rfl, yt6.all, ?_⟩
      conv => whnf
      refine store_tl (u := x.t) yr6 ?_
      intro h9 w9
      conv => whnf
      have z9 := w9.size
      exact cw_ret ⟨_, rfl, w9.new.all, rfl, ⟨by have := x06.size; omega, fun b hb => by rw [w9.block b (by omega), x06.block b hb]⟩⟩
end Go.Proofs.YtgecapllodgdeaaGreatDoor
namespace Go.Proofs.YtgecapllodgdeaaGreatDoor
open Go Vm
set_option linter.unusedVariables false
set_option linter.unusedSimpArgs false
def dig (c : UInt8) : Prop := 48 ≤ c.toNat ∧ c.toNat ≤ 57
def valN : Nat → List UInt8 → Nat
  | acc, [] => acc
  | acc, c :: r => valN (acc * 10 + (c.toNat - 48)) r
theorem valN_append : ∀ (a b : List UInt8) (acc : Nat), valN acc (a ++ b) = valN (valN acc a) b
  | [], b, acc => rfl
  | c :: a, b, acc => valN_append a b _
theorem valN_ge : ∀ (l : List UInt8) (acc : Nat), acc ≤ valN acc l
  | [], acc => Nat.le_refl _
  | c :: l, acc => Nat.le_trans (by omega) (valN_ge l (acc * 10 + (c.toNat - 48)))
theorem dec_dig (u : Nat) : ∀ c ∈ Lib.decDigits u, dig c := by
  induction u using Nat.strongRecOn with
  | _ u ih =>
    unfold Lib.decDigits
    split
    · rename_i h
      intro c hc
      simp only [List.mem_singleton] at hc
      subst hc
      unfold dig
      simp only [UInt8.toNat_ofNat']
      omega
    · rename_i h
      intro c hc
      rcases List.mem_append.1 hc with hc | hc
      · exact ih (u / 10) (by omega) c hc
      · simp only [List.mem_singleton] at hc
        subst hc
        unfold dig
        simp only [UInt8.toNat_ofNat']
        omega
theorem dec_small {u : Nat} (h : u < 10) : Lib.decDigits u = [UInt8.ofNat (48 + u)] := by rw [Lib.decDigits, dif_pos h]
theorem dec_big {u : Nat} (h : ¬ u < 10) : Lib.decDigits u = Lib.decDigits (u / 10) ++ [UInt8.ofNat (48 + u % 10)] := by rw [Lib.decDigits, dif_neg h]
theorem u8_ofNat {n : Nat} (h : n < 256) : (UInt8.ofNat n).toNat = n := by rw [UInt8.toNat_ofNat']; omega
theorem dec_val (u : Nat) : valN 0 (Lib.decDigits u) = u := by
  induction u using Nat.strongRecOn with
  | _ u ih =>
    by_cases h : u < 10
    · rw [dec_small h]
      show 0 * 10 + ((UInt8.ofNat (48 + u)).toNat - 48) = u
      rw [u8_ofNat (by omega)]
      omega
    · rw [dec_big h, valN_append, ih (u / 10) (by omega)]
      show u / 10 * 10 + ((UInt8.ofNat (48 + u % 10)).toNat - 48) = u
      rw [u8_ofNat (by omega)]
      omega
theorem dec_ne (u : Nat) : Lib.decDigits u ≠ [] := by
  unfold Lib.decDigits
  split <;> simp
theorem flagL_dig : ∀ (l : List UInt8) (acc : Nat), (∀ c ∈ l, dig c) → flagL l acc = some (valN acc l : Int) ∨ (flagL l acc = none ∧ 1099511627776 < valN acc l)
  | [], acc, _ => .inl rfl
  | c :: r, acc, h => by
    have hc := h c (by simp)
    unfold dig at hc
    unfold flagL valN
    by_cases hb : 1099511627776 < acc
    · right
      rw [if_pos (by omega)]
      exact ⟨rfl, Nat.lt_of_lt_of_le hb (Nat.le_trans (by omega) (valN_ge r _))⟩
    · rw [if_neg (by omega)]
      have := flagL_dig r (acc * 10 + (c.toNat - 48)) (fun d hd => h d (by simp [hd]))
      rwa [show ((acc * 10 + (c.toNat - 48) : Nat) : Int) = 10 * (acc : Int) + ((c.toNat : Int) - 48) by omega] at this
theorem parse_dig : ∀ (l : List UInt8) (acc : Nat), (∀ c ∈ l, dig c) → valN acc l < 18446744073709551616 → Lib.parseUint10 acc l = .ok (valN acc l)
  | [], acc, _, _ => rfl
  | c :: r, acc, h, hv => by
    have hc := h c (by simp)
    unfold dig at hc
    unfold valN at hv
    have := valN_ge r (acc * 10 + (c.toNat - 48))
    unfold Lib.parseUint10 valN
    rw [if_pos hc, if_neg (by omega), if_neg (by omega)]
    exact parse_dig r _ (fun d hd => h d (by simp [hd])) hv
theorem atoi_dec (u : Nat) (h : u < 9223372036854775808) : Lib.atoiAll (Lib.decDigits u) = .ok (u : Int) := by
  have hd := dec_dig u
  have hv := dec_val u
  have hne := dec_ne u
  generalize Lib.decDigits u = l at *
  cases l with
  | nil => exact absurd rfl hne
  | cons c r =>
    have hc := hd c (by simp)
    unfold dig at hc
    unfold Lib.atoiAll
    simp only
    rw [if_neg (by omega)]
    unfold Lib.parseMag
    rw [if_neg (by simp), parse_dig (c :: r) 0 hd (by omega), hv]
    simp only
    rw [if_neg (by omega), if_neg (by omega), if_neg (by omega)]
def numR (ds : List UInt8) : Option Int := match flagL ds 0 with
  | some n => if Lib.itoa n = ds then some n else none
  | none => none
def numP (ds : List UInt8) : Option Int := match Lib.atoiAll ds with
  | .ok n => if Lib.itoa n = ds then some n else none
  | _ => none
def badv (n : Int) : Prop := n < 1 ∨ 4194304 < n
theorem numR_some {ds : List UInt8} {n : Int} (h : numR ds = some n) : numP ds = some n := by
  unfold numR at h
  split at h
  · rename_i m hm
    split at h
    · rename_i he
      cases h
      have h1 := flagL_le ds 0 n (by decide) (by decide) hm
      have e : Lib.itoa n = Lib.decDigits n.toNat := by unfold Lib.itoa; rw [if_neg (by omega)]
      unfold numP
      have := atoi_dec n.toNat (by omega)
      rw [← e, he, show ((n.toNat : Nat) : Int) = n by omega] at this
      rw [this]
      simp only
      rw [if_pos he]
    · cases h
  · cases h
theorem numR_none {ds : List UInt8} (h : numR ds = none) : numP ds = none ∨ ∃ n, numP ds = some n ∧ badv n := by
  cases hp : numP ds with
  | none => exact .inl rfl
  | some n =>
    right
    refine ⟨n, rfl, ?_⟩
    unfold numP at hp
    split at hp
    · rename_i m hm
      split at hp
      · rename_i he
        cases hp
        by_cases hn : n < 0
        · exact .inl (by omega)
        · have e : Lib.itoa n = Lib.decDigits n.toNat := by unfold Lib.itoa; rw [if_neg hn]
          have hd := dec_dig n.toNat
          have hv := dec_val n.toNat
          rw [← e, he] at hd hv
          rcases flagL_dig ds 0 hd with h1 | ⟨h1, h2⟩
          · unfold numR at h
            rw [show ((0 : Nat) : Int) = 0 from rfl, hv, show ((n.toNat : Nat) : Int) = n by omega] at h1
            rw [h1] at h
            simp only [he, if_true] at h
            cases h
          · exact .inr (by omega)
      · cases hp
    · cases hp
/-! ### cut -/
theorem index_no : ∀ (s : List UInt8), 61 ∉ s → Lib.index s [61] = -1
  | [], _ => rfl
  | c :: s, h => by
    have h1 : c ≠ 61 := fun e => h (by simp [e])
    have h2 : 61 ∉ s := fun e => h (by simp [e])
    unfold Lib.index
    rw [if_neg (by simp [List.isPrefixOf]; exact fun e => h1 e.symm), index_no s h2]
    rfl
theorem index_yes : ∀ (w ds : List UInt8), 61 ∉ w → Lib.index (w ++ 61 :: ds) [61] = w.length
  | [], ds, _ => by unfold Lib.index; rfl
  | c :: w, ds, h => by
    have h1 : c ≠ 61 := fun e => h (by simp [e])
    have h2 : 61 ∉ w := fun e => h (by simp [e])
    show Lib.index (c :: (w ++ 61 :: ds)) [61] = _
    unfold Lib.index
    rw [if_neg (by simp [List.isPrefixOf]; exact fun e => h1 e.symm), index_yes w ds h2]
    rw [if_neg (by simp)]
    simp
theorem cut_no {s : List UInt8} (h : 61 ∉ s) : Lib.cut s [61] = (s, [], false) := by
  unfold Lib.cut
  rw [index_no s h]
  rfl
theorem cut_yes {w ds : List UInt8} (h : 61 ∉ w) : Lib.cut (w ++ 61 :: ds) [61] = (w, ds, true) := by
  unfold Lib.cut
  rw [index_yes w ds h, if_pos (by omega)]
  simp
theorem split_eq : ∀ (s : List UInt8), 61 ∉ s ∨ ∃ w ds, 61 ∉ w ∧ s = w ++ 61 :: ds
  | [] => .inl (by simp)
  | c :: s => by
    by_cases h : c = 61
    · subst h; exact .inr ⟨[], s, by simp, rfl⟩
    · rcases split_eq s with h1 | ⟨w, ds, h1, rfl⟩
      · exact .inl (by simp [h1]; exact fun e => h e.symm)
      · exact .inr ⟨c :: w, ds, by simp [h1]; exact fun e => h e.symm, rfl⟩
theorem head_eq : ∀ {w w' ds es : List UInt8}, 61 ∉ w → 61 ∉ w' → w ++ 61 :: ds = w' ++ 61 :: es → w = w' ∧ ds = es
  | [], [], ds, es, _, _, h => ⟨rfl, by simpa using h⟩
  | [], c :: w', ds, es, _, h2, h => by simp at h; exact absurd (by simp [h.1]) h2
  | c :: w, [], ds, es, h1, _, h => by simp at h; exact absurd (by simp [h.1]) h1
  | c :: w, d :: w', ds, es, h1, h2, h => by
    simp only [List.cons_append, List.cons.injEq] at h
    obtain ⟨rfl, h⟩ := h
    obtain ⟨h3, h4⟩ := head_eq (fun e => h1 (by simp [e])) (fun e => h2 (by simp [e])) h
    exact ⟨by rw [h3], h4⟩
theorem itoa_ne (n : Int) : Lib.itoa n ≠ [] := by
  unfold Lib.itoa
  split
  · simp
  · exact dec_ne _
theorem flagS_no {s w : List UInt8} (h : 61 ∉ s) : flagS s (w ++ [61]) = (0, false) := by
  unfold flagS
  rw [if_pos]
  by_cases h1 : s.length ≤ (w ++ [61]).length
  · exact .inl h1
  · refine .inr fun e => h ?_
    have : (61 : UInt8) ∈ s.take (w ++ [61]).length := by rw [e]; simp
    exact List.mem_of_mem_take this
theorem flagS_yes {w w' ds : List UInt8} (h : 61 ∉ w) (h' : 61 ∉ w') : ((flagS (w ++ 61 :: ds) (w' ++ [61])).2 = true ↔ w = w' ∧ (numR ds).isSome) ∧ (w = w' → ∀ n, numR ds = some n → (flagS (w ++ 61 :: ds) (w' ++ [61])).1 = n) := by
  by_cases hw : w = w'
  · subst hw
    have e1 : (w ++ 61 :: ds).take (w ++ [61]).length = w ++ [61] := by
      rw [show w ++ 61 :: ds = (w ++ [61]) ++ ds by simp]
      exact List.take_left
    have e2 : (w ++ 61 :: ds).drop (w ++ [61]).length = ds := by
      rw [show w ++ 61 :: ds = (w ++ [61]) ++ ds by simp]
      exact List.drop_left
    unfold flagS
    rw [e1, e2]
    cases ds with
    | nil =>
      rw [if_pos (.inl (by simp))]
      have : numR [] = none := by
        unfold numR flagL
        simp only
        rw [if_neg (itoa_ne 0)]
      rw [this]
      simp
    | cons c ds =>
      rw [if_neg (by simp)]
      unfold numR
      cases flagL (c :: ds) 0 with
      | none => simp
      | some n =>
        simp only [true_and, decide_eq_true_eq]
        by_cases he : Lib.itoa n = c :: ds
        · simp [he]
        · simp [he]
  · have hf : flagS (w ++ 61 :: ds) (w' ++ [61]) = (0, false) := by
      unfold flagS
      rw [if_pos]
      by_cases h1 : (w ++ 61 :: ds).length ≤ (w' ++ [61]).length
      · exact .inl h1
      · refine .inr fun e => hw ?_
        have := List.take_append_drop (w' ++ [61]).length (w ++ 61 :: ds)
        rw [e] at this
        exact (head_eq (es := (w ++ 61 :: ds).drop (w' ++ [61]).length) h h' (by rw [← this]; simp)).1
    rw [hf]
    simp [hw]
/-! ### step by step -/
def wk (k : Nat) : List UInt8 := if k = 0 then wSlots else if k = 1 then wMemo else wRoom
theorem wd_eq (k : Nat) : wd k = wk k ++ [61] := by unfold wd wk; split; rfl; split <;> rfl
theorem wk_no (k : Nat) : 61 ∉ wk k := by unfold wk; split; decide; split <;> decide
structure Sim (x : Tl × MapL) (y : FS) : Prop where
  t : x.1 = y.t
  d : ∀ k, k < 3 → (mget x.2 (wk k)).isSome = y.d k
def Bad (x : Tl × MapL) : Prop := ((mget x.2 wSlots).isSome = true ∧ badv x.1.s) ∨ ((mget x.2 wMemo).isSome = true ∧ badv x.1.m) ∨ ((mget x.2 wRoom).isSome = true ∧ badv x.1.r)
theorem bad_may {x : Tl × MapL} (h : Bad x) : mayS x.1 = false := by
  unfold mayS
  unfold Bad badv at h
  rcases h with ⟨_, h | h⟩ | ⟨_, h | h⟩ | ⟨_, h | h⟩ <;> simp <;> omega
theorem pstep_eq (x : Tl × MapL) {w ds : List UInt8} (h : 61 ∉ w) : pstep x (w ++ 61 :: ds) = match numP ds with
    | none => none
    | some n => if (mget x.2 w).isSome then none else
      if w = wSlots then some ({ x.1 with s := n }, mput wSlots one1 x.2) else
      if w = wMemo then some ({ x.1 with m := n }, mput wMemo one1 x.2) else
      if w = wRoom then some ({ x.1 with r := n }, mput wRoom one1 x.2) else none := by
  unfold pstep numP
  rw [cut_yes h]
  simp only
  cases Lib.atoiAll ds with
  | ok n =>
    simp only
    by_cases he : Lib.itoa n = ds
    · rw [if_neg (fun e => e he), if_pos he]
    · rw [if_pos he, if_neg he]
  | _ => rfl
theorem pstep_no (x : Tl × MapL) {s : List UInt8} (h : 61 ∉ s) : pstep x s = none := by
  unfold pstep
  rw [cut_no h]
  rfl
theorem bad_step {x y : Tl × MapL} {s : List UInt8} (hs : pstep x s = some y) (h : Bad x) : Bad y := by
  rcases split_eq s with h1 | ⟨w, ds, h1, rfl⟩
  · rw [pstep_no x h1] at hs; cases hs
  · rw [pstep_eq x h1] at hs
    cases hn : numP ds with
    | none => rw [hn] at hs; cases hs
    | some n =>
      rw [hn] at hs
      simp only at hs
      split at hs
      · cases hs
      · rename_i ht
        have ne1 : wSlots ≠ wMemo := by decide
        have ne2 : wSlots ≠ wRoom := by decide
        have ne3 : wMemo ≠ wRoom := by decide
        split at hs
        · rename_i hw; subst hw; cases hs
          rcases h with ⟨h, _⟩ | ⟨h, hb⟩ | ⟨h, hb⟩
          · exact absurd h ht
          · exact .inr (.inl ⟨by rw [mget_put, if_neg ne1]; exact h, hb⟩)
          · exact .inr (.inr ⟨by rw [mget_put, if_neg ne2]; exact h, hb⟩)
        · split at hs
          · rename_i hw; subst hw; cases hs
            rcases h with ⟨h, hb⟩ | ⟨h, _⟩ | ⟨h, hb⟩
            · exact .inl ⟨by rw [mget_put, if_neg ne1.symm]; exact h, hb⟩
            · exact absurd h ht
            · exact .inr (.inr ⟨by rw [mget_put, if_neg ne3]; exact h, hb⟩)
          · split at hs
            · rename_i hw; subst hw; cases hs
              rcases h with ⟨h, hb⟩ | ⟨h, hb⟩ | ⟨h, _⟩
              · exact .inl ⟨by rw [mget_put, if_neg ne2.symm]; exact h, hb⟩
              · exact .inr (.inl ⟨by rw [mget_put, if_neg ne3.symm]; exact h, hb⟩)
              · exact absurd h ht
            · cases hs
theorem rk_no {s : List UInt8} {k : Nat} {x : FS} (h : (flagS s (wd k)).2 = false) : rk s k x = x := by unfold rk; rw [if_pos (.inl h)]
theorem rk_told {s : List UInt8} {k : Nat} {x : FS} (h : x.d k = true) : rk s k x = x := by unfold rk; rw [if_pos (.inr h)]
theorem rk_yes {s : List UInt8} {k : Nat} {x : FS} (h : (flagS s (wd k)).2 = true) (hd : x.d k = false) : rk s k x = ⟨setT x.t k (flagS s (wd k)).1, fun j => if j = k then true else x.d j, true⟩ := by unfold rk; rw [if_neg (by simp [h, hd])]
theorem rkN_none {s : List UInt8} {x : FS} (h : ∀ k, k < 3 → (flagS s (wd k)).2 = false) : rkN s 3 x = x := by
  show rk s 2 (rk s 1 (rk s 0 x)) = x
  rw [rk_no (h 0 (by decide)), rk_no (h 1 (by decide)), rk_no (h 2 (by decide))]
theorem rkN_one {s : List UInt8} {x : FS} {k : Nat} (hk : k < 3) (h : (flagS s (wd k)).2 = true) (hn : ∀ j, j < 3 → j ≠ k → (flagS s (wd j)).2 = false) : rkN s 3 x = rk s k x := by
  show rk s 2 (rk s 1 (rk s 0 x)) = _
  rcases (show k = 0 ∨ k = 1 ∨ k = 2 by omega) with rfl | rfl | rfl
  · rw [rk_no (k := 2) (hn 2 (by decide) (by decide)), rk_no (k := 1) (hn 1 (by decide) (by decide))]
  · rw [rk_no (k := 2) (hn 2 (by decide) (by decide)), rk_no (k := 0) (hn 0 (by decide) (by decide))]
  · rw [rk_no (k := 0) (hn 0 (by decide) (by decide)), rk_no (k := 1) (hn 1 (by decide) (by decide))]
theorem wk_inj {j k : Nat} (hj : j < 3) (hk : k < 3) (h : wk j = wk k) : j = k := by
  rcases (show k = 0 ∨ k = 1 ∨ k = 2 by omega) with rfl | rfl | rfl <;> rcases (show j = 0 ∨ j = 1 ∨ j = 2 by omega) with rfl | rfl | rfl <;> first | rfl | exact absurd h (by decide)
theorem step_sim {x : Tl × MapL} {y : FS} (S : Sim x y) (s : List UInt8) :
    ((rkN s 3 { y with kn := false }).kn = true → ∃ x', pstep x s = some x' ∧ Sim x' (rkN s 3 { y with kn := false })) ∧
    ((rkN s 3 { y with kn := false }).kn = false → pstep x s = none ∨ ∃ x', pstep x s = some x' ∧ Bad x') := by
  rcases split_eq s with h1 | ⟨w, ds, h1, rfl⟩
  · rw [rkN_none (fun k _ => by rw [wd_eq, flagS_no h1])]
    exact ⟨fun h => (by cases h), fun _ => .inl (pstep_no x h1)⟩
  · have hf := fun k => flagS_yes (w' := wk k) (ds := ds) h1 (wk_no k)
    simp only [← wd_eq] at hf
    rw [pstep_eq x h1]
    cases hn : numR ds with
    | none =>
      have h0 : ∀ k, k < 3 → (flagS (w ++ 61 :: ds) (wd k)).2 = false := fun k _ => by
        rw [Bool.eq_false_iff]
        intro e
        have := ((hf k).1.1 e).2
        rw [hn] at this
        cases this
      rw [rkN_none h0]
      refine ⟨fun h => (by cases h), fun _ => ?_⟩
      rcases numR_none hn with hp | ⟨n, hp, hb⟩
      · rw [hp]; exact .inl rfl
      · rw [hp]
        simp only
        split
        · exact .inl rfl
        · split
          · exact .inr ⟨_, rfl, .inl ⟨by rw [mget_put, if_pos rfl]; rfl, hb⟩⟩
          · split
            · exact .inr ⟨_, rfl, .inr (.inl ⟨by rw [mget_put, if_pos rfl]; rfl, hb⟩)⟩
            · split
              · exact .inr ⟨_, rfl, .inr (.inr ⟨by rw [mget_put, if_pos rfl]; rfl, hb⟩)⟩
              · exact .inl rfl
    | some n =>
      rw [numR_some hn]
      simp only
      by_cases hw : ∃ k, k < 3 ∧ w = wk k
      · obtain ⟨k, hk, rfl⟩ := hw
        have hk1 : (flagS (wk k ++ 61 :: ds) (wd k)).2 = true := (hf k).1.2 ⟨rfl, by rw [hn]; rfl⟩
        have hk2 : (flagS (wk k ++ 61 :: ds) (wd k)).1 = n := (hf k).2 rfl n hn
        rw [rkN_one hk hk1 (fun j hj hne => by
          rw [Bool.eq_false_iff]
          intro e
          exact hne (wk_inj hj hk ((hf j).1.1 e).1.symm))]
        have hd := S.d k hk
        cases ht : y.d k with
        | true =>
          rw [ht] at hd
          rw [rk_told (x := { y with kn := false }) ht, if_pos hd]
          exact ⟨fun h => (by cases h), fun _ => .inl rfl⟩
        | false =>
          rw [ht] at hd
          rw [rk_yes (x := { y with kn := false }) hk1 ht, if_neg (by rw [hd]; decide), hk2]
          refine ⟨fun _ => ?_, fun h => (by cases h)⟩
          rcases (show k = 0 ∨ k = 1 ∨ k = 2 by omega) with rfl | rfl | rfl
          · refine ⟨_, if_pos rfl, ?_, fun j hj => ?_⟩
            · show ({ x.1 with s := n } : Tl) = setT y.t 0 n; rw [S.t]; rfl
            · rw [mget_put]
              by_cases e : j = 0
              · subst e; rw [show wk 0 = wSlots from rfl, if_pos rfl]; rfl
              · rw [if_neg (fun h => e (wk_inj hj (by decide) h.symm)), S.d j hj]; exact (if_neg e).symm
          · refine ⟨_, (if_neg (by decide)).trans (if_pos rfl), ?_, fun j hj => ?_⟩
            · show ({ x.1 with m := n } : Tl) = setT y.t 1 n; rw [S.t]; rfl
            · rw [mget_put]
              by_cases e : j = 1
              · subst e; rw [show wk 1 = wMemo from rfl, if_pos rfl]; rfl
              · rw [if_neg (fun h => e (wk_inj hj (by decide) h.symm)), S.d j hj]; exact (if_neg e).symm
          · refine ⟨_, (if_neg (by decide)).trans ((if_neg (by decide)).trans (if_pos rfl)), ?_, fun j hj => ?_⟩
            · show ({ x.1 with r := n } : Tl) = setT y.t 2 n; rw [S.t]; rfl
            · rw [mget_put]
              by_cases e : j = 2
              · subst e; rw [show wk 2 = wRoom from rfl, if_pos rfl]; rfl
              · rw [if_neg (fun h => e (wk_inj hj (by decide) h.symm)), S.d j hj]; exact (if_neg e).symm
      · have h0 : ∀ k, k < 3 → (flagS (w ++ 61 :: ds) (wd k)).2 = false := fun k hk => by
          rw [Bool.eq_false_iff]
          intro e
          exact hw ⟨k, hk, ((hf k).1.1 e).1⟩
        rw [rkN_none h0]
        refine ⟨fun h => (by cases h), fun _ => .inl ?_⟩
        split
        · rfl
        · rw [if_neg (fun e : w = wSlots => hw ⟨0, by decide, e⟩), if_neg (fun e : w = wMemo => hw ⟨1, by decide, e⟩), if_neg (fun e : w = wRoom => hw ⟨2, by decide, e⟩)]
theorem bad_flags : ∀ (l : List (List UInt8)) (x y : Tl × MapL), pflags l x = some y → Bad x → Bad y
  | [], x, y, h, hb => by cases h; exact hb
  | s :: l, x, y, h, hb => by
    unfold pflags at h
    cases hp : pstep x s with
    | none => rw [hp] at h; cases h
    | some z => rw [hp] at h; exact bad_flags l z y h (bad_step hp hb)
def outP (o : Option (Tl × MapL)) : Tl × Int := match o with
  | none => (tz, 250)
  | some x => if mayS x.1 then (x.1, 0) else (tz, 250)
def outR (o : Option FS) : Tl × Int := match o with
  | none => (tz, 250)
  | some x => if mayS x.t then (x.t, 0) else (tz, 250)
theorem outP_bad {l : List (List UInt8)} {x : Tl × MapL} (hb : Bad x) : outP (pflags l x) = (tz, 250) := by
  cases h : pflags l x with
  | none => rfl
  | some y =>
    show (if mayS y.1 then (y.1, 0) else (tz, 250)) = _
    rw [bad_may (bad_flags l x y h hb)]
    rfl
theorem sim_flags : ∀ (l : List (List UInt8)) (x : Tl × MapL) (y : FS), Sim x y → outP (pflags l x) = outR (rflags l y)
  | [], x, y, S => by
    show (if mayS x.1 then (x.1, 0) else (tz, 250)) = (if mayS y.t then (y.t, 0) else (tz, 250))
    rw [S.t]
  | s :: l, x, y, S => by
    obtain ⟨h1, h2⟩ := step_sim S s
    unfold pflags rflags
    cases hk : (rkN s 3 { y with kn := false }).kn with
    | true =>
      obtain ⟨x', hx, S'⟩ := h1 hk
      rw [hx]
      simp only [if_true]
      exact sim_flags l x' _ S'
    | false =>
      simp only [Bool.false_eq_true, if_false]
      rcases h2 hk with hx | ⟨x', hx, hb⟩
      · rw [hx]; rfl
      · rw [hx]; exact outP_bad hb
theorem flags_eq (l : List (List UInt8)) : flagsP l = flagsR l :=
  sim_flags l (t0, []) ⟨t0, fun _ => false, false⟩ ⟨rfl, fun k hk => rfl⟩
end Go.Proofs.YtgecapllodgdeaaGreatDoor
