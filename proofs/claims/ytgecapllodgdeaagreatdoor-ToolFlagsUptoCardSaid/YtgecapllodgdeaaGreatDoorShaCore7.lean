/-
  The contract of the laws' awake.
-/
import Derived.Test.YtgecapllodgdeaaGreatDoorShaCore6
import Derived.Test.YtgecapllodgdeaaGreatDoorVmEq
namespace Go.Proofs.YtgecapllodgdeaaGreatDoor
open Go Vm
set_option maxRecDepth 100000
theorem u8v_inj (l m : List UInt8) : (l.map (fun b => (b.toNat : Int)) = m.map (fun b => (b.toNat : Int))) ↔ l = m := by
  constructor
  · intro h
    refine List.map_inj_right ?_ |>.1 h
    intro a b hab
    exact UInt8.toNat_inj.1 (by exact_mod_cast hab)
  · rintro rfl; rfl
theorem map_u8v (l : List UInt8) : l.map u8v = (l.map (fun b => (b.toNat : Int))).map (Value.int .u8) := by
  rw [List.map_map]; rfl
theorem dig_eq (xo yo : Operand) (l m : List UInt8) (h1 : l.length = 32) (h2 : m.length = 32) (w : World) :
    (do eqGuard .eql 53 xo yo (.agg (l.map u8v).toArray) (.agg (m.map u8v).toArray); binOp .eql 53 (.agg (l.map u8v).toArray) (.agg (m.map u8v).toArray) : Sem Value).run Tryz.prog w = .ok (.bool (decide (l = m))) w := by
  rw [map_u8v, map_u8v, run_eq_ints (P := Tryz.prog) (t := 53) (e := 5) (n := 32) rfl rfl (by kernel_rfl) (i := Tryz.prog.types[5]) rfl (by kernel_rfl) (by kernel_rfl) xo yo _ _ (by simpa using h1) (by simpa using h2) w]
  simp only [u8v_inj]
theorem dig_ne (xo yo : Operand) (l m : List UInt8) (h1 : l.length = 32) (h2 : m.length = 32) (w : World) :
    (do eqGuard .neq 53 xo yo (.agg (l.map u8v).toArray) (.agg (m.map u8v).toArray); binOp .neq 53 (.agg (l.map u8v).toArray) (.agg (m.map u8v).toArray) : Sem Value).run Tryz.prog w = .ok (.bool (!decide (l = m))) w := by
  rw [map_u8v, map_u8v, run_ne_ints (P := Tryz.prog) (t := 53) (e := 5) (n := 32) rfl rfl (by kernel_rfl) (i := Tryz.prog.types[5]) rfl (by kernel_rfl) (by kernel_rfl) xo yo _ _ (by simpa using h1) (by simpa using h2) w]
  simp only [u8v_inj]
theorem RD.at {D : Nat → Prop} {h : Heap} {b n : Nat} {l : List UInt8} (hr : rdN h b 0 (l.map u8v)) (hl : l.length = n) (hm : n ≤ maxLen) (hb : D b) : RD D h (.slice (some ⟨b, 0, none⟩) n n) l := by
  subst hl
  exact ⟨⟨by simp, .inr ⟨_, _, rfl, Nat.le_refl _, hm, rdA_plain.2 hr⟩⟩, fun _ c hc => by rw [ob_slice] at hc; exact hc ▸ hb⟩
theorem RD.nil {D : Nat → Prop} {h : Heap} : RD D h (.slice none 0 0) [] := ⟨⟨by simp, .inl ⟨rfl, rfl⟩⟩, fun e => absurd rfl e⟩
theorem PD.empty {D : Nat → Prop} {h : Heap} : PD D h (.slice none 0 0) [] [] := ⟨⟨by simp, .inl ⟨rfl, rfl⟩⟩, fun e => absurd rfl e, fun i m hi => by simp at hi⟩
theorem PD.one {D : Nat → Prop} {h : Heap} {b : Nat} {v : Value} {m : List UInt8} {t : TypeId} (hr : Blk h b [v] t) (hb : D b) (hv : RD D h v m) : PD D h (.slice (some ⟨b, 0, none⟩) 1 1) [m] [v] := by
  refine ⟨⟨rfl, .inr ⟨_, 1, rfl, Nat.le_refl _, by decide, rdA_plain.2 hr.all⟩⟩, fun _ c hc => by rw [ob_slice] at hc; exact hc ▸ hb, ?_⟩
  intro i m' hi
  match i, hi with
  | 0, hi => simp at hi; exact ⟨v, rfl, hi ▸ hv⟩
theorem PD.two {D : Nat → Prop} {h : Heap} {b : Nat} {v w : Value} {m n : List UInt8} {t : TypeId} (hr : Blk h b [v, w] t) (hb : D b) (hv : RD D h v m) (hw : RD D h w n) : PD D h (.slice (some ⟨b, 0, none⟩) 2 2) [m, n] [v, w] := by
  refine ⟨⟨rfl, .inr ⟨_, 2, rfl, Nat.le_refl _, by decide, rdA_plain.2 hr.all⟩⟩, fun _ c hc => by rw [ob_slice] at hc; exact hc ▸ hb, ?_⟩
  intro i m' hi
  match i, hi with
  | 0, hi => simp at hi; exact ⟨v, rfl, hi ▸ hv⟩
  | 1, hi => simp at hi; exact ⟨w, rfl, hi ▸ hw⟩
theorem PD.three {D : Nat → Prop} {h : Heap} {b : Nat} {v w u : Value} {m n k : List UInt8} {t : TypeId} (hr : Blk h b [v, w, u] t) (hb : D b) (hv : RD D h v m) (hw : RD D h w n) (hu : RD D h u k) : PD D h (.slice (some ⟨b, 0, none⟩) 3 3) [m, n, k] [v, w, u] := by
  refine ⟨⟨rfl, .inr ⟨_, 3, rfl, Nat.le_refl _, by decide, rdA_plain.2 hr.all⟩⟩, fun _ c hc => by rw [ob_slice] at hc; exact hc ▸ hb, ?_⟩
  intro i m' hi
  match i, hi with
  | 0, hi => simp at hi; exact ⟨v, rfl, hi ▸ hv⟩
  | 1, hi => simp at hi; exact ⟨w, rfl, hi ▸ hw⟩
  | 2, hi => simp at hi; exact ⟨u, rfl, hi ▸ hu⟩
theorem Marked.chg {h h' : Heap} {b : Nat} {l : List Value} (m : Marked h h' b l) : Chg (fun c => c = b) h h' := ⟨by rw [m.size]; exact Nat.le_refl _, fun c _ hc => m.block c hc⟩
end Go.Proofs.YtgecapllodgdeaaGreatDoor
