/-
  The contracts of package sha's Of, Reset; constant bytes; the laws' awake.
-/
import Derived.Test.YtgecapllodgdeaaGreatDoorShaCore5
namespace Go.Proofs.YtgecapllodgdeaaGreatDoor
open Go Vm
set_option maxRecDepth 100000
/-- block b is read as l, and nothing else is turned -/
structure Marked (h h' : Heap) (b : Nat) (l : List Value) : Prop where
  size : h'.size = h.size
  rd : rdN h' b 0 l
  block : ∀ c, c ≠ b → h'[c]? = h[c]?
theorem conv_bytes {P : Program} {t e : TypeId} (ht : P.underlying t = some (.slice e)) (he : P.underlying e = some (.int .u8)) {h : Heap} {b o n c : Nat} {l : List Value} {e' : TypeId} (hb : Blk h b l e') :
    RunsV P (convert t t (.slice (some ⟨b, o, none⟩) n c)) h fun v h' => v = .slice (some ⟨b, o, none⟩) n c ∧ Marked h h' b l := by
  intro w hw
  subst hw
  have hsh : w.shape? b = some (e', l.length) := by
    unfold World.shape?
    rw [show w.heap[b]? = some (.cells l.toArray e' (0, 0)) from hb]
    simp
  have hlt := hb.lt
  have hnew : (w.freeze ⟨b, l.length, none⟩ 1).heap[b]? = some (.cells l.toArray e' (l.length, l.length + 1)) := by
    unfold World.freeze
    rw [if_neg (by decide)]
    simp only [Array.getElem?_modify]
    rw [show w.heap[b]? = some (.cells l.toArray e' (0, 0)) from hb]
    rfl
  refine ⟨.slice (some ⟨b, o, none⟩) n c, w.freeze ⟨b, l.length, none⟩ 1, ?_, ⟨?_, ?_, ?_⟩, rfl, ⟨?_, ?_, ?_⟩⟩
  · simp [convert, run_underlying ht, run_underlying he, markStringish, hsh]
  · simp [World.freeze]
  · simp [World.freeze]
  · simp [World.freeze]
  · simp [World.freeze]
  · intro j v hj
    unfold Vm.rd
    rw [show ((⟨b, 0 + j, none⟩ : Addr)).block = b from rfl, hnew]
    simpa using hj
  · intro k hk
    unfold World.freeze
    rw [if_neg (by decide)]
    simp only [Array.getElem?_modify]
    rw [if_neg (fun e => hk e.symm)]
theorem of_fn {D : Nat → Prop} {h : Heap} {x : Value} {ms : List (List UInt8)} {pv : List Value} (hx : PD D h x ms pv) (hD : ∀ b, D b → b < h.size) (hms : ms.flatten.length ≤ 100000000000000) :
    Fx Tryz.prog 42 #[x] h fun u h' => u = .agg ((Sha.digest ms.flatten).map u8v).toArray ∧ ExtH h h' := by
  refine fn_of 10 Tryz.func42 rfl (by kernel_rfl) rfl (by simp) ?_
  refine cw_seq (cw_region rfl ?_)
  conv => whnf
  intro h1 n1
  refine cw_seq (cw_region rfl ?_)
  conv => whnf
  refine ⟨_, rfl, _, new_fn h1, ?_⟩
  rintro _ h2 ⟨p, rfl, hp, H2, x2⟩
  conv => whnf
  have z1 := n1.size; have z2 := x2.size
  have hx2 : PD D h2 x ms pv := hx.keep ((n1.ext.trans x2).chg (S := fun _ => False)) (fun _ _ e => e)
  refine cw_seq (cw_region rfl ?_)
  conv => whnf
  refine ⟨_, rfl, _, write_fn H2 hx2 (fun b hb => by have := hD b hb; exact ⟨by omega, by omega, ob_nil⟩) (by decide) hms (by omega), ?_⟩
  rintro _ h3 ⟨rfl, v3, H3, c3, f3⟩
  conv => whnf
  have hr := Sha.rest_lt ([] ++ ms.flatten)
  refine cw_seq (cw_region rfl ?_)
  conv => whnf
  refine ⟨_, rfl, _, sum_fn H3 (by omega) (by omega), ?_⟩
  rintro _ h4 ⟨rfl, x4⟩
  have z3 := c3.size; have z4 := x4.size
  conv => whnf
  have b4 : Blk h4 h.size (List.replicate 32 (u8v 0)) 53 := by
    have : Blk h1 h.size (List.replicate 32 (u8v 0)) 53 := n1.blk
    refine x4.blk (c3.blk (x2.blk this) (fun e => ?_))
    rcases e with e | e
    · omega
    · exact ob_nil e
  refine ⟨_, _, b4, ⟨(show (32 : Nat) ≤ 32 by decide), by rfl, by simp [u8v, Value.oneCell']⟩, ?_⟩
  intro h5 w5
  replace w5 := w5.cast (l' := (Sha.digest ms.flatten).map u8v) (by simp [splice, Sha.sum_length, Sha.digest])
  refine cw_ret ?_
  conv => whnf
  refine ⟨_, by rfl, w5.new.all, rfl, ?_⟩
  have z5 := w5.size
  exact ⟨by omega, fun b hb => by
    rw [w5.block b (by omega), x4.block b (by omega), c3.block b (by omega) (fun e => by
      rcases e with e | e
      · omega
      · exact ob_nil e), x2.block b (by omega), n1.block b hb]⟩
theorem of_q {D : Nat → Prop} {h : Heap} {x : Value} {ms : List (List UInt8)} {pv : List Value} (hx : PD D h x ms pv) (hD : ∀ b, D b → b < h.size) (hms : ms.flatten.length ≤ 100000000000000) :
    FxQ Tryz.prog 42 #[x] h (.agg ((Sha.digest ms.flatten).map u8v).toArray) := fun _ x1 =>
  of_fn (hx.keep (x1.chg (S := fun _ => False)) (fun _ _ e => e)) (fun b hb => Nat.lt_of_lt_of_le (hD b hb) x1.size) hms
end Go.Proofs.YtgecapllodgdeaaGreatDoor
