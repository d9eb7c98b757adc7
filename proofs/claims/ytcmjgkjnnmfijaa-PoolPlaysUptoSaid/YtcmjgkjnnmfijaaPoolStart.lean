/-
  Package pool's Start; the laws' key.
-/
import Derived.Test.YtcmjgkjnnmfijaaPoolTick
namespace Go.Proofs.Ytcmjgkjnnmfijaa
open Go Vm
set_option maxRecDepth 100000
set_option linter.unusedVariables false
theorem cons_of {α : Type} {l : List α} {n : Nat} (h : l.length = n + 1) : ∃ a t, l = a :: t ∧ t.length = n := by
  cases l with
  | nil => simp at h
  | cons a t => exact ⟨a, t, rfl, by simpa using h⟩
theorem build_new (n slots : Int) (key : List UInt8) (hk : key.length = 32) (wd : World) : (Instr.build 31 #[(0, .int .i64 n), (3, .agg (key.map u8v).toArray), (2, .int .i64 slots), (1, .int .i64 1)]).run Try.prog wd = .ok (.agg (wkC ⟨n, 1, slots, key, 0, 0⟩).toArray) wd := by
  obtain ⟨a0, l1, rfl, h1⟩ := cons_of hk
  obtain ⟨a1, l2, rfl, h2⟩ := cons_of h1
  obtain ⟨a2, l3, rfl, h3⟩ := cons_of h2
  obtain ⟨a3, l4, rfl, h4⟩ := cons_of h3
  obtain ⟨a4, l5, rfl, h5⟩ := cons_of h4
  obtain ⟨a5, l6, rfl, h6⟩ := cons_of h5
  obtain ⟨a6, l7, rfl, h7⟩ := cons_of h6
  obtain ⟨a7, l8, rfl, h8⟩ := cons_of h7
  obtain ⟨a8, l9, rfl, h9⟩ := cons_of h8
  obtain ⟨a9, l10, rfl, h10⟩ := cons_of h9
  obtain ⟨a10, l11, rfl, h11⟩ := cons_of h10
  obtain ⟨a11, l12, rfl, h12⟩ := cons_of h11
  obtain ⟨a12, l13, rfl, h13⟩ := cons_of h12
  obtain ⟨a13, l14, rfl, h14⟩ := cons_of h13
  obtain ⟨a14, l15, rfl, h15⟩ := cons_of h14
  obtain ⟨a15, l16, rfl, h16⟩ := cons_of h15
  obtain ⟨a16, l17, rfl, h17⟩ := cons_of h16
  obtain ⟨a17, l18, rfl, h18⟩ := cons_of h17
  obtain ⟨a18, l19, rfl, h19⟩ := cons_of h18
  obtain ⟨a19, l20, rfl, h20⟩ := cons_of h19
  obtain ⟨a20, l21, rfl, h21⟩ := cons_of h20
  obtain ⟨a21, l22, rfl, h22⟩ := cons_of h21
  obtain ⟨a22, l23, rfl, h23⟩ := cons_of h22
  obtain ⟨a23, l24, rfl, h24⟩ := cons_of h23
  obtain ⟨a24, l25, rfl, h25⟩ := cons_of h24
  obtain ⟨a25, l26, rfl, h26⟩ := cons_of h25
  obtain ⟨a26, l27, rfl, h27⟩ := cons_of h26
  obtain ⟨a27, l28, rfl, h28⟩ := cons_of h27
  obtain ⟨a28, l29, rfl, h29⟩ := cons_of h28
  obtain ⟨a29, l30, rfl, h30⟩ := cons_of h29
  obtain ⟨a30, l31, rfl, h31⟩ := cons_of h30
  obtain ⟨a31, l32, rfl, h32⟩ := cons_of h31
  obtain rfl := List.eq_nil_of_length_eq_zero h32
  kernel_rfl
theorem ExtP.blk' {K : Nat → Prop} {h h' : Heap} (e : ExtP K h h') {b : Nat} {l : List Value} {t : TypeId} (hb : Blk h b l t) (hK : K b) : Blk h' b l t := (e.block b hK hb.lt).trans hb
def newW (ws : List Wk) (key : List UInt8) (slots : Int) : Wk := ⟨(ws.length : Int) + 1, 1, slots, key, 0, 0⟩
def startS (wk sl : Int) (ws : List Wk) (key : List UInt8) (slots : Int) : List Wk × Int × Int :=
  if slots < 1 ∨ sl < slots then (ws, 0, 1) else if wk ≤ (ws.countP isLive : Int) then (ws, 0, 7) else (ws ++ [newW ws key slots], (ws.length : Int) + 1, 0)
def Turned (h h' : Heap) (p : Nat) (v v' : Value) : Prop := Chg (fun b => b = p ∨ ob v b) h h' ∧ ∀ b, ob v' b → ob v b ∨ h.size ≤ b
theorem Turned.of_chg {h h' : Heap} {p : Nat} {v : Value} (c : Chg (ob v) h h') : Turned h h' p v v := ⟨c.mono (fun _ _ e => .inr e), fun _ e => .inl e⟩
theorem start_fn {h : Heap} {p : Nat} {v : Value} {wk sl id : Int} {ws : List Wk} (key : List UInt8) (hkey : key.length = 32) (slots : Int) (A : PoolAt h p v wk sl id ws) (hwk : 0 < wk) (hs : ws.length ≤ 1000000000) :
    Fx Try.prog 27 #[.pointer (some ⟨p, 0, none⟩), .agg (key.map u8v).toArray, .int .i64 slots] h fun u h' => u = .tuple #[.int .i64 (startS wk sl ws key slots).2.1, .int .i64 (startS wk sl ws key slots).2.2] ∧
      ∃ v', PoolAt h' p v' wk sl id (startS wk sl ws key slots).1 ∧ Turned h h' p v v' := by
  refine fn_of 52 Try.func27 rfl (by kernel_rfl) rfl (by simp) ?_
  obtain ⟨va, vc, hve, hvm⟩ := A.fix
  have hmax : maxLen < 9223372036854775808 := by decide
  refine cw_seq (cw_region rfl ?_)
  conv => whnf
  intro h1 n1
  have y1 : Blk h1 h.size (key.map u8v) 29 := n1.blk
  have x1 := n1.ext
  have A1 := A.more x1
  have z1 := n1.size
  clear n1
  refine cw_seq (cw_block (cw_seq (cw_region rfl ?_)))
  conv => whnf
  refine ⟨_, rfl, _, made_fn A1, ?_⟩
  rw [decide_eq_true hwk]
  rintro _ h0 ⟨rfl, e⟩
  subst h0
  conv => whnf
  refine cw_false rfl ?_
  refine cw_seq (cw_region rfl ?_)
  unfold startS
  by_cases hbad : slots < 1 ∨ sl < slots
  · rw [if_pos hbad]
    refine ops_q rfl rfl (fun k hk => hk) ?_
    by_cases h1' : slots < 1
    · refine ops_q (v := .bool true) rfl rfl (fun k hk => say true (decide_eq_true h1') hk) ?_
      conv => whnf
      refine cw_true rfl (cw_seq (cw_region rfl ?_))
      exact cw_ret ⟨rfl, v, A1, Turned.of_chg x1.chg⟩
    · refine ops_q (v := .bool false) rfl rfl (fun k hk => say false (decide_eq_false h1') hk) ?_
      conv => whnf
      refine ⟨_, A1.blk.rd (o := 1) rfl, ?_⟩
      conv => whnf
      refine cw_yes rfl (show sl < slots from hbad.resolve_left h1') (cw_seq (cw_region rfl ?_))
      exact cw_ret ⟨rfl, v, A1, Turned.of_chg x1.chg⟩
  · rw [if_neg hbad]
    refine ops_q rfl rfl (fun k hk => hk) ?_
    refine ops_q (v := .bool false) rfl rfl (fun k hk => say false (decide_eq_false (fun e => hbad (.inl e))) hk) ?_
    conv => whnf
    refine ⟨_, A1.blk.rd (o := 1) rfl, ?_⟩
    conv => whnf
    refine cw_no rfl (fun e => hbad (.inr e)) ?_
    refine cw_seq ?_
    refine cw_drawn (by kernel_rfl) 7 (fun _ => false) (List.range 7) (by kernel_rfl) rfl ?_
    conv => whnf
    refine ⟨_, rfl, .int .i64 (ws.countP isLive : Int), fun h2 e2 => (live_fn (A1.more e2) hwk), ?_⟩
    conv => whnf
    refine ⟨_, A1.blk.rd (o := 0) rfl, ?_⟩
    conv => whnf
    intro h2 x2
    conv => whnf
    have A2 := A1.more x2
    have y2 := x2.blk y1
    have z2 := x2.size
    by_cases hfull : wk ≤ (ws.countP isLive : Int)
    · rw [if_pos hfull]
      refine cw_yes rfl hfull (cw_seq (cw_region rfl ?_))
      exact cw_ret ⟨rfl, v, A2, Turned.of_chg (x1.trans x2).chg⟩
    · rw [if_neg hfull]
      refine cw_no rfl hfull (cw_skip ?_)
      subst hve
      refine cw_seq (cw_region rfl ?_)
      conv => whnf
      refine ⟨_, A2.blk.rd (o := 3) rfl, ?_⟩
      conv => whnf
      rw [i64_in ((ws.length : Int) + 1) (by omega) (by omega)]
      have hnp : ¬ ob (.slice va ws.length vc) p := A.ne
      have hnk : ¬ ob (.slice va ws.length vc) h.size := fun e => by have := OwnS.lt A.own e; omega
      refine cw_seq (cw_keeps (by kernel_rfl) 13 (fun b => ¬ ob (.slice va ws.length vc) b) (.q 0 (.q 1 (.q 2 (.q 3 (.q 4 (.q 5 (.q 6 (.q 7 (.q 8 (.i1 9 (.i1 10 (.q 11 (.q 12 .leaf))))))))))))) (by kernel_rfl) rfl ?_)
      conv => whnf
      refine ⟨_, fun h' e => rfl, ?_⟩
      conv => whnf
      refine ⟨_, fun h' e => rfl, ?_⟩
      conv => whnf
      refine ⟨_, fun h' e => rfl, ?_⟩
      conv => whnf
      refine ⟨_, fun h' e => rfl, ?_⟩
      conv => whnf
      refine ⟨.slice va ws.length vc, fun h' e => ⟨_, (ExtP.blk' e A2.blk hnp).rd (o := 3) rfl, rfl⟩, ?_⟩
      conv => whnf
      refine ⟨_, fun h' e => rfl, ?_⟩
      conv => whnf
      refine ⟨.agg (key.map u8v).toArray, fun h' e => ⟨key.map u8v, by simp [hkey]; rfl, (ExtP.blk' e y2 hnk).all, rfl⟩, ?_⟩
      conv => whnf
      refine ⟨_, fun h' e => rfl, ?_⟩
      conv => whnf
      refine ⟨.agg (wkC (newW ws key slots)).toArray, fun h' e => ⟨_, rfl, _, fun wd => build_new _ _ _ hkey wd, rfl⟩, ?_⟩
      conv => whnf
      intro h3 x3
      conv => whnf
      refine ⟨_, rfl, (wkC (newW ws key slots)).toArray, 31, fun wd => build_wk hkey wd, ?_⟩
      intro h4 n4
      conv => whnf
      refine ⟨n4.ext.toP _, ?_⟩
      intro h5 x5
      conv => whnf
      intro h6 x6
      conv => whnf
      have A6 := A2.more ((x3.trans n4.ext).trans (x5.trans x6))
      have r6 : RW h6 (.slice (some ⟨h3.size, 0, none⟩) 1 1) [newW ws key slots] := Src.more (RW.of_one n4 hkey) (x5.trans x6)
      refine ⟨_, rfl, _, append_wk (ty := 44) A6.own r6 (by show ws.length + 1 ≤ _; omega), ?_⟩
      rintro v7 h7 ⟨o7, c7, f7⟩
      conv => whnf
      refine ⟨⟨c7.size, fun b hb hlt => c7.block b hlt hb⟩, ?_⟩
      intro h8 x8
      conv => whnf
      refine ⟨_, fun h' e => rfl, ?_⟩
      conv => whnf
      refine ⟨_, fun h' e => rfl, ?_⟩
      conv => whnf
      intro h9 x9
      conv => whnf
      have z3 := x3.size; have z4 := n4.size; have z5 := x5.size; have z6 := x6.size; have z7 := c7.size; have z8 := x8.size; have z9 := x9.size
      have x16 := (x1.trans x2).trans ((x3.trans n4.ext).trans (x5.trans x6))
      have c9 : Chg (ob (.slice va ws.length vc)) h h9 := ((x16.chg (S := fun _ => False)).trans (c7.trans ((x8.trans x9).chg (S := fun _ => False)))).mono (fun b _ e => by
        rcases e with e | e | e
        · exact e.elim
        · exact e
        · exact e.elim)
      have y9 : Blk h9 p [.int .i64 wk, .int .i64 sl, .int .i64 id, .slice va ws.length vc] 69 := c9.blk A.blk hnp
      obtain ⟨a7, n7, e7, _⟩ := (OwnS.src o7).form
      subst e7
      refine ⟨_, _, y9, by show 3 < 4; decide, ?_⟩
      intro h10 w10
      have o10 : OW h10 (.slice a7 (ws ++ [newW ws key slots]).length n7) (ws ++ [newW ws key slots]) := OwnS.keep (o7.more (x8.trans x9)) w10.chg (fun b hb e => by
        subst e
        have := OwnS.ne (o7.more (x8.trans x9)) y9 (by decide)
        exact this hb)
      refine cw_seq (cw_region rfl ?_)
      have z10 := w10.size
      refine cw_ret ⟨rfl, _, ⟨w10.new, o10, fun w hw => ?_⟩, ⟨by omega, fun b hb hn => ?_⟩, fun b hb => ?_⟩
      · rcases List.mem_append.1 hw with e | e
        · exact A.keys w e
        · obtain rfl := List.mem_singleton.1 e
          exact hkey
      · rw [w10.block b (fun e => hn (.inl e)), c9.block b hb (fun e => hn (.inr e))]
      · exact (f7 b hb).elim .inl (fun e => .inr (by omega))
theorem key_fn (k : UInt8) (h : Heap) : Fx Try.prog 22 #[u8v k] h fun u h' => u = .agg ((k :: List.replicate 31 0).map u8v).toArray ∧ ExtH h h' := by
  refine fn_of 5 Try.func22 rfl (by kernel_rfl) rfl (by simp) ?_
  refine cw_seq (cw_region rfl ?_)
  conv => whnf
  intro h1 n1
  have y1 : Blk h1 h.size ((List.replicate 32 0).map u8v) 29 := n1.blk
  refine cw_seq (cw_region rfl ?_)
  conv => whnf
  refine ⟨_, rfl, ((k :: List.replicate 31 0).map u8v).toArray, fun w => by kernel_rfl, ?_⟩
  conv => whnf
  refine ⟨_, _, y1, ⟨by show 32 ≤ 32; decide, by rfl, fun x hx => by obtain ⟨_, _, rfl⟩ := List.mem_map.1 (show x ∈ (k :: List.replicate 31 0).map u8v from hx); rfl⟩, ?_⟩
  intro h2 w2
  replace w2 := w2.cast (l' := (k :: List.replicate 31 0).map u8v) (by rfl)
  have z1 := n1.size; have z2 := w2.size
  refine cw_ret ?_
  conv => whnf
  exact ⟨_, by rfl, w2.new.all, rfl, ⟨by omega, fun b hb => by rw [w2.block b (by omega), n1.block b hb]⟩⟩
end Go.Proofs.Ytcmjgkjnnmfijaa
