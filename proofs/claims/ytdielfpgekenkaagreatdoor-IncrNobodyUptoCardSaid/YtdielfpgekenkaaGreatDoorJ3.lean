/-
  Regions that draw their order, where several operations that make memory are ready at once: a walk for each order of these.
  Slices: one that is read, one of our own that is appended to; what append comes to.
  What SHA-256 computes, as plain Lean functions on lists of bytes and words; no program in sight.
  The model's integers of 8, 32 and 64 bits as UInt8, UInt32 and UInt64: what each operation comes to.
-/
import Derived.Test.YtdielfpgekenkaaGreatDoorJ2
import Derived.WalkLawsBesides
namespace Go.Proofs.YtdielfpgekenkaaGreatDoor.Vm
open Go
variable {ds : List Deferred}
/-- which operation comes next: q: one that only reads; i1, i2, i3: one, or one of two or three that make memory -/
inductive Tree where
  | leaf
  | q (i : Nat) (t : Tree)
  | i1 (i : Nat) (t : Tree)
  | i2 (i : Nat) (s : Tree) (j : Nat) (t : Tree)
  | i3 (i : Nat) (s : Tree) (j : Nat) (t : Tree) (k : Nat) (u : Tree)
section
variable {P : Program} {ops : Array Oper} {md : Region.Mode} {B : Nat → Prop}
def wpT (P : Program) (B : Nat → Prop) (ops : Array Oper) (L : Act → World → Prop) : Tree → Act → World → Prop
  | .leaf, a, w => L a w
  | .q i t, a, w => match ops[i]? with
    | none => False
    | some o => ∃ v, Stays P B ops o v a w ∧ ∀ w2, Ext w w2 → wpT P B ops L t (a.put o.dst v) w2
  | .i1 i t, a, w => opX P B ops i (wpT P B ops L t) a w
  | .i2 i s j t, a, w => opX P B ops i (wpT P B ops L s) a w ∧ opX P B ops j (wpT P B ops L t) a w
  | .i3 i s j t k u, a, w => opX P B ops i (wpT P B ops L s) a w ∧ opX P B ops j (wpT P B ops L t) a w ∧ opX P B ops k (wpT P B ops L u) a w
def treeB (md : Region.Mode) (ops : Array Oper) (n : Nat) : Nat → Tree → Array Bool → Bool
  | 0, .leaf, listed => Region.seqB md ops (ops.size - n) n listed
  | f + 1, .q i t, listed => decide (i < n) && (Region.ready md ops listed).contains i && Region.free md ops listed i && treeB md ops n f t (listed.setIfInBounds i true)
  | f + 1, .i1 i t, listed => decide (i < n) && decide (Region.ready md ops listed = [i]) && treeB md ops n f t (listed.setIfInBounds i true)
  | f + 1, .i2 i s j t, listed => decide (i < n) && decide (j < n) && decide (Region.ready md ops listed = [i, j]) && treeB md ops n f s (listed.setIfInBounds i true) && treeB md ops n f t (listed.setIfInBounds j true)
  | f + 1, .i3 i s j t k u, listed => decide (i < n) && decide (j < n) && decide (k < n) && decide (Region.ready md ops listed = [i, j, k]) && treeB md ops n f s (listed.setIfInBounds i true) && treeB md ops n f t (listed.setIfInBounds j true) && treeB md ops n f u (listed.setIfInBounds k true)
  | _, _, _ => false
theorem wpX_of_wpT {n : Nat} {L : Act → World → Prop} (hsel : Region.noSelect ops = true) (hs : Region.sinkB md ops n = true) (hc : Region.chainB md ops n = true) (hn : n < ops.size) :
    ∀ (f : Nat) (t : Tree) (listed : Array Bool) (a : Act) (w : World), HeadInv md ops n listed → treeB md ops n f t listed = true → wpT P B ops L t a w →
      wpX P B md ops n (fun listed' a' w' => Region.seqB md ops (ops.size - n) n listed' = true ∧ L a' w') f listed a w := by
  intro f
  induction f with
  | zero =>
    intro t listed a w _ hB h
    cases t with
    | leaf => exact ⟨hB, h⟩
    | _ => simp [treeB] at hB
  | succ f ih =>
    intro t listed a w inv hB h
    have go : ∀ (r : List Nat), Region.ready md ops listed = r → r ≠ [] → (∀ i ∈ r, i < n ∧ opX P B ops i (wpX P B md ops n (fun listed' a' w' => Region.seqB md ops (ops.size - n) n listed' = true ∧ L a' w') f (listed.setIfInBounds i true)) a w) →
        wpX P B md ops n (fun listed' a' w' => Region.seqB md ops (ops.size - n) n listed' = true ∧ L a' w') (f + 1) listed a w := fun r hr hne H =>
      ⟨fun h0 => hne (hr ▸ h0), fun j hj => H j (hr ▸ hj)⟩
    cases t with
    | leaf => simp [treeB] at hB
    | q i t =>
      simp only [treeB, Bool.and_eq_true, decide_eq_true_eq] at hB
      obtain ⟨⟨⟨hin, hr⟩, hk⟩, hB'⟩ := hB
      have hr' : i ∈ Region.ready md ops listed := by simpa using hr
      unfold wpT at h
      cases ho : ops[i]? with
      | none => simp [ho] at h
      | some o =>
        simp only [ho] at h
        obtain ⟨v, hy, hK⟩ := h
        exact wpX_first ho (Region.noSelect_spec hsel) hs hc hn hin (fun listed' a' w' hL => seqB_ready hL.1) f listed a w inv (Region.free_spec ho hk) hr' hy
          (fun w2 h2 => ih t _ _ w2 (inv.set hr' hin) hB' (hK w2 h2))
    | i1 i t =>
      simp only [treeB, Bool.and_eq_true, decide_eq_true_eq] at hB
      obtain ⟨⟨hin, hr⟩, hB'⟩ := hB
      refine go _ hr (by simp) (fun j hj => ?_)
      have : j = i := by simpa using hj
      subst this
      exact ⟨hin, opX_mono (fun a' w' _ h' => ih t _ a' w' (inv.set (by rw [hr]; simp) hin) hB' h') h⟩
    | i2 i s j t =>
      simp only [treeB, Bool.and_eq_true, decide_eq_true_eq] at hB
      obtain ⟨⟨⟨⟨hin, hjn⟩, hr⟩, hB1⟩, hB2⟩ := hB
      refine go _ hr (by simp) (fun m hm => ?_)
      simp only [List.mem_cons, List.not_mem_nil, or_false] at hm
      rcases hm with rfl | rfl
      · exact ⟨hin, opX_mono (fun a' w' _ h' => ih s _ a' w' (inv.set (by rw [hr]; simp) hin) hB1 h') h.1⟩
      · exact ⟨hjn, opX_mono (fun a' w' _ h' => ih t _ a' w' (inv.set (by rw [hr]; simp) hjn) hB2 h') h.2⟩
    | i3 i s j t k u =>
      simp only [treeB, Bool.and_eq_true, decide_eq_true_eq] at hB
      obtain ⟨⟨⟨⟨⟨⟨hin, hjn⟩, hkn⟩, hr⟩, hB1⟩, hB2⟩, hB3⟩ := hB
      refine go _ hr (by simp) (fun m hm => ?_)
      simp only [List.mem_cons, List.not_mem_nil, or_false] at hm
      rcases hm with rfl | rfl | rfl
      · exact ⟨hin, opX_mono (fun a' w' _ h' => ih s _ a' w' (inv.set (by rw [hr]; simp) hin) hB1 h') h.1⟩
      · exact ⟨hjn, opX_mono (fun a' w' _ h' => ih t _ a' w' (inv.set (by rw [hr]; simp) hjn) hB2 h') h.2.1⟩
      · exact ⟨hkn, opX_mono (fun a' w' _ h' => ih u _ a' w' (inv.set (by rw [hr]; simp) hkn) hB3 h') h.2.2⟩
def regT (ops : Array Oper) (n : Nat) (t : Tree) : Bool :=
  Region.noSelect ops && decide (n < ops.size) && Region.sinkB .any ops n && Region.chainB .any ops n && treeB .any ops n n t (Array.replicate ops.size false)
theorem wp_region_tree {id : Nat} {Q : Exit → Act → World → Prop} {a : Act} {w : World} (B : Nat → Prop) (n : Nat) (t : Tree) (hm : P.follows .mixedOrders = true) (hB : regT ops n t = true)
    (h : wpT P B ops (fun a' w' => wpList P ops Q (ops.toList.drop n) a' w') t a { w with drawn := w.drawn + 1 }) : (Code.region id ops true).wp P Q a w := by
  simp only [regT, Bool.and_eq_true, decide_eq_true_eq] at hB
  obtain ⟨⟨⟨⟨hsel, hn⟩, hs⟩, hc⟩, hh⟩ := hB
  have inv0 : HeadInv .any ops n (Array.replicate ops.size false) :=
    ⟨by simp, fun j oj _ hl => (by rw [getD_replicate_false] at hl; cases hl), fun t _ ht => getD_in (by simpa using ht) (getD_replicate_false _ _)⟩
  refine wp_region_any hm ?_
  have h1 := wpX_of_wpT hsel hs hc hn n t _ a _ inv0 hh h
  have h2 := wpAny_of_wpX (g := ops.size - n) (Q := Q) (fun listed a' w' hL =>
    have hl : (ops.toList.drop n).length = ops.size - n := by simp
    hl ▸ wpAny_of_seq (ops.toList.drop n) n listed a' w' (by simp) (by rw [hl]; exact hL.1) hL.2) n _ a _ h1
  rwa [Nat.add_sub_cancel' (Nat.le_of_lt hn)] at h2
end
/-! ### over frames -/
def evI (P : Program) (all : List Oper) (h0 : Heap) (K : Fr → Heap → Prop) (i : Nat) (fr : Fr) (h : Heap) : Prop :=
  match all[i]? with
  | none => False
  | some o => gk all o fr (∀ h1, ExtH h h1 → opx P o fr h1 fun v h2 => ExtU h0.size h1 h2 ∧ ∀ h3, ExtH h2 h3 → K (put fr o.dst v) h3) (∀ h3, ExtH h h3 → K (put fr o.dst undef) h3)
def evT (P : Program) (all : List Oper) (h0 : Heap) (L : Fr → Heap → Prop) : Tree → Fr → Heap → Prop
  | .leaf, fr, h => ∀ h', ExtH h h' → L fr h'
  | .q i t, fr, h => match all[i]? with
    | none => False
    | some o => gk all o fr (opqc P o fr h0 fun v => evT P all h0 L t (put fr o.dst v) h) (evT P all h0 L t (put fr o.dst undef) h)
  | .i1 i t, fr, h => evI P all h0 (evT P all h0 L t) i fr h
  | .i2 i s j t, fr, h => evI P all h0 (evT P all h0 L s) i fr h ∧ evI P all h0 (evT P all h0 L t) j fr h
  | .i3 i s j t k u, fr, h => evI P all h0 (evT P all h0 L s) i fr h ∧ evI P all h0 (evT P all h0 L t) j fr h ∧ evI P all h0 (evT P all h0 L u) k fr h
theorem evI_sound {P : Program} {n : Nat} {all : List Oper} {h0 : Heap} {K : Fr → Heap → Prop} {K' : Act → World → Prop} (hd : ∀ o ∈ all, dok n o.dst) (w0 : World) {i : Nat} {fr : Fr} {h : Heap} {a : Act} {w : World}
    (hK : ∀ fr h a w, K fr h → Hold ds n fr a → h = w.heap → ExtH h0 w.heap → SameEnv w0 w → K' a w) (H : evI P all h0 K i fr h) (hF : Hold ds n fr a) (hw : ExtH h w.heap) (hw0 : ExtH h0 w.heap) (hs : SameEnv w0 w) : opX P (fun b => b < h0.size) all.toArray i K' a w := by
  unfold evI at H
  cases ho : all[i]? with
  | none => simp [ho] at H
  | some o =>
    simp only [ho] at H
    have hdo : dok n o.dst := hd o (List.mem_of_getElem? ho)
    have ho' : all.toArray[i]? = some o := by simpa using ho
    unfold opX
    simp only [ho']
    rcases gk_elim H hF with ⟨hg, H⟩ | ⟨hg, H⟩
    · rw [if_pos hg]
      refine extX_of_comes (k := fun v h3 => ExtH h0 h3 ∧ K (put fr o.dst v) h3) ?_ fun v w' hs' hk => ?_
      · refine (opx_sound hF (H w.heap hw) rfl).mono fun v h2 hk => ⟨hk.1.p, fun h3 h23 => ⟨?_, hk.2 h3 h23⟩⟩
        have h02 : ExtH h0 h2 := ⟨Nat.le_trans hw0.size hk.1.size, fun b hb => (hk.1.block b hb (Nat.lt_of_lt_of_le hb hw0.size)).trans (hw0.block b hb)⟩
        exact h02.trans h23
      · exact hK _ _ _ w' hk.2 (hF.put _ _ hdo) rfl hk.1 (hs.trans hs')
    · rw [if_neg (by simp [hg])]
      exact fun w3 h3 => hK _ _ _ w3 (H w3.heap (hw.trans h3.heap)) (hF.put _ _ hdo) rfl (hw0.trans h3.heap) (hs.trans h3.env)
theorem evT_sound {P : Program} {n : Nat} {all : List Oper} {h0 : Heap} {L : Fr → Heap → Prop} {L' : Act → World → Prop} (hd : ∀ o ∈ all, dok n o.dst) (w0 : World) (hL : ∀ fr a w, Hold ds n fr a → SameEnv w0 w → L fr w.heap → L' a w) :
    ∀ (t : Tree) (fr : Fr) (h : Heap) (a : Act) (w : World), evT P all h0 L t fr h → Hold ds n fr a → ExtH h w.heap → ExtH h0 w.heap → SameEnv w0 w → wpT P (fun b => b < h0.size) all.toArray L' t a w
  | .leaf, fr, h, a, w, H, hF, hw, _, hs => hL fr a w hF hs (H _ hw)
  | .q i t, fr, h, a, w, H, hF, hw, hw0, hs => by
    unfold evT at H
    unfold wpT
    cases ho : all[i]? with
    | none => simp [ho] at H
    | some o =>
      simp only [ho] at H
      have hdo : dok n o.dst := hd o (List.mem_of_getElem? ho)
      have ho' : all.toArray[i]? = some o := by simpa using ho
      simp only [ho']
      rcases gk_elim H hF with ⟨hg, H⟩ | ⟨hg, H⟩
      · obtain ⟨v, hk, hv⟩ := opqc_sound hF H hw0
        exact ⟨v, .inl ⟨hg, hv⟩, fun w2 h2 => evT_sound hd w0 hL t _ _ _ w2 hk (hF.put _ _ hdo) (hw.trans h2.heap) (hw0.trans h2.heap) (hs.trans h2.env)⟩
      · exact ⟨undef, .inr ⟨hg, rfl⟩, fun w2 h2 => evT_sound hd w0 hL t _ _ _ w2 H (hF.put _ _ hdo) (hw.trans h2.heap) (hw0.trans h2.heap) (hs.trans h2.env)⟩
  | .i1 i t, fr, h, a, w, H, hF, hw, hw0, hs =>
    evI_sound hd w0 (fun fr h a w hk hF e h0w hs => evT_sound hd w0 hL t fr h a w hk hF (e ▸ ExtH.refl _) h0w hs) H hF hw hw0 hs
  | .i2 i s j t, fr, h, a, w, H, hF, hw, hw0, hs =>
    ⟨evI_sound hd w0 (fun fr h a w hk hF e h0w hs => evT_sound hd w0 hL s fr h a w hk hF (e ▸ ExtH.refl _) h0w hs) H.1 hF hw hw0 hs,
     evI_sound hd w0 (fun fr h a w hk hF e h0w hs => evT_sound hd w0 hL t fr h a w hk hF (e ▸ ExtH.refl _) h0w hs) H.2 hF hw hw0 hs⟩
  | .i3 i s j t k u, fr, h, a, w, H, hF, hw, hw0, hs =>
    ⟨evI_sound hd w0 (fun fr h a w hk hF e h0w hs => evT_sound hd w0 hL s fr h a w hk hF (e ▸ ExtH.refl _) h0w hs) H.1 hF hw hw0 hs,
     evI_sound hd w0 (fun fr h a w hk hF e h0w hs => evT_sound hd w0 hL t fr h a w hk hF (e ▸ ExtH.refl _) h0w hs) H.2.1 hF hw hw0 hs,
     evI_sound hd w0 (fun fr h a w hk hF e h0w hs => evT_sound hd w0 hL u fr h a w hk hF (e ▸ ExtH.refl _) h0w hs) H.2.2 hF hw hw0 hs⟩
theorem cw_tree {P : Program} {n : Nat} {Q : Exit → Fr → Heap → Prop} {fr : Fr} {h : Heap} {id : Nat} {ops : Array Oper} (hm : P.follows .mixedOrders = true) (m : Nat) (t : Tree) (hB : regT ops m t = true) (hd : dstsB n ops.toList = true)
    (H : evT P ops.toList h (fun fr h => evOps P ops.toList (ops.toList.drop m) fr h fun fr h => Q .normal fr h) t fr h) : CwD ds P n (.region id ops true) Q fr h :=
  ⟨fun w0 a w hF hs hw => by
    refine wp_region_tree (fun b => b < h.size) m t hm hB ?_
    have := evT_sound (n := n) (P := P) (all := ops.toList) (h0 := h) (fun o ho => dok_of hd ho) w0 (L' := fun a' w' => wpList P ops (Post ds w0 n Q) (ops.toList.drop m) a' w')
      (fun fr1 a' w' hF' hs' hk => by
        have := evOps_sound (n := n) (Q := Post ds w0 n Q) (ops.toList.drop m) (fun o ho => dok_of hd (List.mem_of_mem_drop ho)) fr1 w'.heap a' w' hk hF' rfl (fun fr'' a'' w'' hF'' hs'' hk' => ⟨fr'', hF'', hs'.trans hs'', hk'⟩)
        simpa using this)
      t fr h a { w with drawn := w.drawn + 1 } H hF (hw ▸ ExtH.refl _) (hw ▸ ExtH.refl _) ⟨hs.os, hs.tape, hs.output⟩
    simpa using this⟩
/-- the same, where the leaves agree on what they keep -/
theorem cw_tree_to {P : Program} {n : Nat} {Q : Exit → Fr → Heap → Prop} {fr : Fr} {h : Heap} {id : Nat} {ops : Array Oper} (hm : P.follows .mixedOrders = true) (m : Nat) (t : Tree) (hB : regT ops m t = true) (hd : dstsB n ops.toList = true)
    (G : Fr → Heap → Prop) (H : evT P ops.toList h (fun fr h => ∃ fr', Sub fr' fr ∧ G fr' h) t fr h) (H2 : ∀ fr' h', G fr' h' → evOps P ops.toList (ops.toList.drop m) fr' h' fun fr h => Q .normal fr h) : CwD ds P n (.region id ops true) Q fr h :=
  ⟨fun w0 a w hF hs hw => by
    refine wp_region_tree (fun b => b < h.size) m t hm hB ?_
    have := evT_sound (n := n) (P := P) (all := ops.toList) (h0 := h) (fun o ho => dok_of hd ho) w0 (L' := fun a' w' => wpList P ops (Post ds w0 n Q) (ops.toList.drop m) a' w')
      (fun fr1 a' w' hF' hs' ⟨fr2, hsub, hk⟩ => by
        have := evOps_sound (n := n) (Q := Post ds w0 n Q) (ops.toList.drop m) (fun o ho => dok_of hd (List.mem_of_mem_drop ho)) fr2 w'.heap a' w' (H2 _ _ hk) (hF'.sub hsub) rfl (fun fr'' a'' w'' hF'' hs'' hk' => ⟨fr'', hF'', hs'.trans hs'', hk'⟩)
        simpa using this)
      t fr h a { w with drawn := w.drawn + 1 } H hF (hw ▸ ExtH.refl _) (hw ▸ ExtH.refl _) ⟨hs.os, hs.tape, hs.output⟩
    simpa using this⟩
/-! ### where the head writes into a block that none of its reading operations looks at: K, the blocks that stay -/
def evKI (P : Program) (all : List Oper) (K : Nat → Prop) (k : Fr → Heap → Prop) (i : Nat) (fr : Fr) (h : Heap) : Prop :=
  match all[i]? with
  | none => False
  | some o => gk all o fr (∀ h1, ExtH h h1 → opx P o fr h1 fun v h2 => ExtP K h1 h2 ∧ ∀ h3, ExtH h2 h3 → k (put fr o.dst v) h3) (∀ h3, ExtH h h3 → k (put fr o.dst undef) h3)
def evK (P : Program) (all : List Oper) (K : Nat → Prop) (h0 : Heap) (L : Fr → Heap → Prop) : Tree → Fr → Heap → Prop
  | .leaf, fr, h => ∀ h', ExtH h h' → L fr h'
  | .q i t, fr, h => match all[i]? with
    | none => False
    | some o => gk all o fr (∃ v, (∀ h1, ExtP K h0 h1 → opqc P o fr h1 fun u => u = v) ∧ evK P all K h0 L t (put fr o.dst v) h) (evK P all K h0 L t (put fr o.dst undef) h)
  | .i1 i t, fr, h => evKI P all K (evK P all K h0 L t) i fr h
  | .i2 i s j t, fr, h => evKI P all K (evK P all K h0 L s) i fr h ∧ evKI P all K (evK P all K h0 L t) j fr h
  | .i3 i s j t k u, fr, h => evKI P all K (evK P all K h0 L s) i fr h ∧ evKI P all K (evK P all K h0 L t) j fr h ∧ evKI P all K (evK P all K h0 L u) k fr h
theorem evKI_sound {P : Program} {n : Nat} {all : List Oper} {K : Nat → Prop} {h0 : Heap} {k : Fr → Heap → Prop} {K' : Act → World → Prop} (hd : ∀ o ∈ all, dok n o.dst) (w0 : World) {i : Nat} {fr : Fr} {h : Heap} {a : Act} {w : World}
    (hK : ∀ fr h a w, k fr h → Hold ds n fr a → h = w.heap → ExtP K h0 w.heap → SameEnv w0 w → K' a w) (H : evKI P all K k i fr h) (hF : Hold ds n fr a) (hw : ExtH h w.heap) (hw0 : ExtP K h0 w.heap) (hs : SameEnv w0 w) : opX P K all.toArray i K' a w := by
  unfold evKI at H
  cases ho : all[i]? with
  | none => simp [ho] at H
  | some o =>
    simp only [ho] at H
    have hdo : dok n o.dst := hd o (List.mem_of_getElem? ho)
    have ho' : all.toArray[i]? = some o := by simpa using ho
    unfold opX
    simp only [ho']
    rcases gk_elim H hF with ⟨hg, H⟩ | ⟨hg, H⟩
    · rw [if_pos hg]
      refine extX_of_comes (k := fun v h3 => ExtP K h0 h3 ∧ k (put fr o.dst v) h3) ?_ fun v w' hs' hk => ?_
      · exact (opx_sound hF (H w.heap hw) rfl).mono fun v h2 hk => ⟨hk.1, fun h3 h23 => ⟨(hw0.trans hk.1).trans (h23.toP K), hk.2 h3 h23⟩⟩
      · exact hK _ _ _ w' hk.2 (hF.put _ _ hdo) rfl hk.1 (hs.trans hs')
    · rw [if_neg (by simp [hg])]
      exact fun w3 h3 => hK _ _ _ w3 (H w3.heap (hw.trans h3.heap)) (hF.put _ _ hdo) rfl (hw0.trans (h3.heap.toP K)) (hs.trans h3.env)
theorem evK_sound {P : Program} {n : Nat} {all : List Oper} {K : Nat → Prop} {h0 : Heap} {L : Fr → Heap → Prop} {L' : Act → World → Prop} (hd : ∀ o ∈ all, dok n o.dst) (w0 : World) (hL : ∀ fr a w, Hold ds n fr a → SameEnv w0 w → L fr w.heap → L' a w) :
    ∀ (t : Tree) (fr : Fr) (h : Heap) (a : Act) (w : World), evK P all K h0 L t fr h → Hold ds n fr a → ExtH h w.heap → ExtP K h0 w.heap → SameEnv w0 w → wpT P K all.toArray L' t a w
  | .leaf, fr, h, a, w, H, hF, hw, _, hs => hL fr a w hF hs (H _ hw)
  | .q i t, fr, h, a, w, H, hF, hw, hw0, hs => by
    unfold evK at H
    unfold wpT
    cases ho : all[i]? with
    | none => simp [ho] at H
    | some o =>
      simp only [ho] at H
      have hdo : dok n o.dst := hd o (List.mem_of_getElem? ho)
      have ho' : all.toArray[i]? = some o := by simpa using ho
      simp only [ho']
      rcases gk_elim H hF with ⟨hg, H⟩ | ⟨hg, H⟩
      · obtain ⟨v, hv, hk⟩ := H
        refine ⟨v, .inl ⟨hg, fun w1 e => ?_⟩, fun w2 h2 => evK_sound hd w0 hL t _ _ _ w2 hk (hF.put _ _ hdo) (hw.trans h2.heap) (hw0.trans (h2.heap.toP K)) (hs.trans h2.env)⟩
        obtain ⟨u, rfl, hu⟩ := opqc_sound hF (hv w1.heap (hw0.trans e.heap)) (ExtH.refl _)
        exact hu w1 (ExtB.refl _ _)
      · exact ⟨undef, .inr ⟨hg, rfl⟩, fun w2 h2 => evK_sound hd w0 hL t _ _ _ w2 H (hF.put _ _ hdo) (hw.trans h2.heap) (hw0.trans (h2.heap.toP K)) (hs.trans h2.env)⟩
  | .i1 i t, fr, h, a, w, H, hF, hw, hw0, hs =>
    evKI_sound hd w0 (fun fr h a w hk hF e h0w hs => evK_sound hd w0 hL t fr h a w hk hF (e ▸ ExtH.refl _) h0w hs) H hF hw hw0 hs
  | .i2 i s j t, fr, h, a, w, H, hF, hw, hw0, hs =>
    ⟨evKI_sound hd w0 (fun fr h a w hk hF e h0w hs => evK_sound hd w0 hL s fr h a w hk hF (e ▸ ExtH.refl _) h0w hs) H.1 hF hw hw0 hs,
     evKI_sound hd w0 (fun fr h a w hk hF e h0w hs => evK_sound hd w0 hL t fr h a w hk hF (e ▸ ExtH.refl _) h0w hs) H.2 hF hw hw0 hs⟩
  | .i3 i s j t k u, fr, h, a, w, H, hF, hw, hw0, hs =>
    ⟨evKI_sound hd w0 (fun fr h a w hk hF e h0w hs => evK_sound hd w0 hL s fr h a w hk hF (e ▸ ExtH.refl _) h0w hs) H.1 hF hw hw0 hs,
     evKI_sound hd w0 (fun fr h a w hk hF e h0w hs => evK_sound hd w0 hL t fr h a w hk hF (e ▸ ExtH.refl _) h0w hs) H.2.1 hF hw hw0 hs,
     evKI_sound hd w0 (fun fr h a w hk hF e h0w hs => evK_sound hd w0 hL u fr h a w hk hF (e ▸ ExtH.refl _) h0w hs) H.2.2 hF hw hw0 hs⟩
theorem cw_keeps {P : Program} {n : Nat} {Q : Exit → Fr → Heap → Prop} {fr : Fr} {h : Heap} {id : Nat} {ops : Array Oper} (hm : P.follows .mixedOrders = true) (m : Nat) (K : Nat → Prop) (t : Tree) (hB : regT ops m t = true) (hd : dstsB n ops.toList = true)
    (H : evK P ops.toList K h (fun fr h => evOps P ops.toList (ops.toList.drop m) fr h fun fr h => Q .normal fr h) t fr h) : CwD ds P n (.region id ops true) Q fr h :=
  ⟨fun w0 a w hF hs hw => by
    refine wp_region_tree K m t hm hB ?_
    have := evK_sound (n := n) (P := P) (all := ops.toList) (K := K) (h0 := h) (fun o ho => dok_of hd ho) w0 (L' := fun a' w' => wpList P ops (Post ds w0 n Q) (ops.toList.drop m) a' w')
      (fun fr1 a' w' hF' hs' hk => by
        have := evOps_sound (n := n) (Q := Post ds w0 n Q) (ops.toList.drop m) (fun o ho => dok_of hd (List.mem_of_mem_drop ho)) fr1 w'.heap a' w' hk hF' rfl (fun fr'' a'' w'' hF'' hs'' hk' => ⟨fr'', hF'', hs'.trans hs'', hk'⟩)
        simpa using this)
      t fr h a { w with drawn := w.drawn + 1 } H hF (hw ▸ ExtH.refl _) (hw ▸ ExtP.refl _ _) ⟨hs.os, hs.tape, hs.output⟩
    simpa using this⟩
end Go.Proofs.YtdielfpgekenkaaGreatDoor.Vm
namespace Go.Proofs.YtdielfpgekenkaaGreatDoor.Vm
open Go
/-- h' is h with new blocks, and other contents in the blocks of S -/
structure Chg (S : Nat → Prop) (h h' : Heap) : Prop where
  size : h.size ≤ h'.size
  block : ∀ b, b < h.size → ¬ S b → h'[b]? = h[b]?
theorem ExtH.chg {S : Nat → Prop} {h h' : Heap} (e : ExtH h h') : Chg S h h' := ⟨e.size, fun b hb _ => e.block b hb⟩
theorem Chg.ext {S : Nat → Prop} {h h' : Heap} (c : Chg S h h') (hS : ∀ b, S b → h.size ≤ b) : ExtH h h' := ⟨c.size, fun b hb => c.block b hb (fun hs => by have := hS b hs; omega)⟩
theorem Chg.trans {S T : Nat → Prop} {a b c : Heap} (x : Chg S a b) (y : Chg T b c) : Chg (fun k => S k ∨ T k) a c :=
  ⟨Nat.le_trans x.size y.size, fun k hk hn => (y.block k (Nat.lt_of_lt_of_le hk x.size) (fun ht => hn (.inr ht))).trans (x.block k hk (fun hs => hn (.inl hs)))⟩
theorem Chg.mono {S T : Nat → Prop} {a b : Heap} (x : Chg S a b) (hS : ∀ k, k < a.size → S k → T k) : Chg T a b := ⟨x.size, fun k hk hn => x.block k hk (fun hs => hn (hS k hk hs))⟩
theorem Wrote.chg {h h' : Heap} {b : Nat} {l : List Value} {t : TypeId} (w : Wrote h h' b l t) : Chg (fun k => k = b) h h' := ⟨by rw [w.size]; exact Nat.le_refl _, fun k _ hn => w.block k hn⟩
theorem Chg.blk {S : Nat → Prop} {h h' : Heap} (c : Chg S h h') {b : Nat} {l : List Value} {t : TypeId} (hb : Blk h b l t) (hn : ¬ S b) : Blk h' b l t := (c.block b hb.lt hn).trans hb
theorem Chg.rd {S : Nat → Prop} {h h' : Heap} (c : Chg S h h') {a : Addr} {v : Value} (hr : rd h a = some v) (hn : ¬ S a.block) : Vm.rd h' a = some v := by
  have := c.block a.block (rd_lt hr) hn
  unfold Vm.rd at *
  rw [this]
  exact hr
theorem Chg.rdN {S : Nat → Prop} {h h' : Heap} (c : Chg S h h') {b o : Nat} {vs : List Value} (hr : rdN h b o vs) (hn : ¬ S b) : Vm.rdN h' b o vs := fun j v hj => c.rd (hr j v hj) hn
theorem add_none (b o n : Nat) : (⟨b, o, none⟩ : Addr).add n = ⟨b, o + n, none⟩ := by unfold Addr.add; split <;> simp_all
theorem add_add (A : Addr) (i j : Nat) : (A.add i).add j = A.add (i + j) := by
  unfold Addr.add
  by_cases hi : i = 0
  · subst hi; simp
  · by_cases hj : j = 0
    · subst hj; simp
    · simp [hi, hj]; omega
/-- the cells from an address on -/
def rdA (h : Heap) (A : Addr) (vs : List Value) : Prop := ∀ (j : Nat) (v : Value), vs[j]? = some v → Vm.rd h (A.add j) = some v
theorem rdA_plain {h : Heap} {b o : Nat} {vs : List Value} : rdA h ⟨b, o, none⟩ vs ↔ Vm.rdN h b o vs := by
  unfold rdA Vm.rdN
  constructor
  · intro H j v hj; have := H j v hj; rwa [add_none] at this
  · intro H j v hj; rw [add_none]; exact H j v hj
theorem rdA.spot {h : Heap} {A : Addr} {vs : List Value} (H : rdA h A vs) (hne : vs ≠ []) : A = ⟨A.block, A.off, none⟩ := by
  cases vs with
  | nil => exact absurd rfl hne
  | cons x vs =>
    have := H 0 x rfl
    obtain ⟨b, o, spot⟩ := A
    cases spot with
    | none => rfl
    | some q =>
      unfold Vm.rd Addr.add at this
      simp only [if_true] at this
      split at this
      · simp at this
      · cases this
theorem rdA.keep {S : Nat → Prop} {h h' : Heap} {A : Addr} {vs : List Value} (H : rdA h A vs) (c : Chg S h h') (hn : ¬ S A.block) : rdA h' A vs := fun j v hj => c.rd (H j v hj) (by
  have : (A.add j).block = A.block := by unfold Addr.add; split <;> rfl
  rwa [this])
/-- a slice that is read: n elements of k cells each, the cells xs -/
def Src (h : Heap) (k : Nat) (v : Value) (n : Nat) (xs : List Value) : Prop :=
  xs.length = n * k ∧ ((v = .slice none 0 0 ∧ n = 0) ∨ ∃ A cap, v = .slice (some A) n cap ∧ n ≤ cap ∧ cap ≤ maxLen ∧ rdA h A xs)
/-- a slice of our own: it begins its block -/
def OwnS (h : Heap) (e : TypeId) (k : Nat) (v : Value) (n : Nat) (xs : List Value) : Prop :=
  xs.length = n * k ∧ ((v = .slice none 0 0 ∧ n = 0) ∨ ∃ g cap tl, v = .slice (some ⟨g, 0, none⟩) n cap ∧ Blk h g (xs ++ tl) e ∧ n ≤ cap ∧ cap ≤ maxLen ∧ (xs ++ tl).length = cap * k)
/-- whose block is it -/
def ob (v : Value) (b : Nat) : Prop := ∃ o n c, v = .slice (some ⟨b, o, none⟩) n c
theorem ob_nil {b : Nat} : ¬ ob (.slice none 0 0) b := by rintro ⟨_, _, _, h⟩; simp at h
theorem ob_slice {b o n c d : Nat} : ob (.slice (some ⟨b, o, none⟩) n c) d ↔ d = b := by
  constructor
  · rintro ⟨o', n', c', h⟩; simp at h; exact h.1.1.symm
  · rintro rfl; exact ⟨_, _, _, rfl⟩
theorem OwnS.src {h : Heap} {e : TypeId} {k : Nat} {v : Value} {n : Nat} {xs : List Value} (H : OwnS h e k v n xs) : Src h k v n xs := by
  refine ⟨H.1, ?_⟩
  rcases H.2 with hn | ⟨g, cap, tl, rfl, hb, hc, hm, hl⟩
  · exact .inl hn
  · exact .inr ⟨_, cap, rfl, hc, hm, rdA_plain.2 (hb.rdN 0 xs (by simp))⟩
theorem OwnS.nil (h : Heap) (e : TypeId) (k : Nat) : OwnS h e k (.slice none 0 0) 0 [] := ⟨by simp, .inl ⟨rfl, rfl⟩⟩
theorem OwnS.lt {h : Heap} {e : TypeId} {k : Nat} {v : Value} {n : Nat} {xs : List Value} (H : OwnS h e k v n xs) {b : Nat} (hb : ob v b) : b < h.size := by
  rcases H.2 with ⟨rfl, _⟩ | ⟨g, cap, tl, rfl, hg, _⟩
  · exact (ob_nil hb).elim
  · rw [ob_slice] at hb; subst hb; exact hg.lt
/-- another type's block is another block -/
theorem OwnS.ne {h : Heap} {e : TypeId} {k : Nat} {v : Value} {n : Nat} {xs : List Value} (H : OwnS h e k v n xs) {p : Nat} {l : List Value} {t : TypeId} (hp : Blk h p l t) (ht : t ≠ e) : ¬ ob v p := by
  intro hb
  rcases H.2 with ⟨rfl, _⟩ | ⟨g, cap, tl, rfl, hg, _⟩
  · exact ob_nil hb
  · rw [ob_slice] at hb; subst hb
    unfold Blk at *
    rw [hp] at hg
    injection hg with hg
    injection hg with _ h2
    exact ht h2
theorem OwnS.keep {S : Nat → Prop} {h h' : Heap} {e : TypeId} {k : Nat} {v : Value} {n : Nat} {xs : List Value} (H : OwnS h e k v n xs) (c : Chg S h h') (hn : ∀ b, ob v b → ¬ S b) : OwnS h' e k v n xs := by
  refine ⟨H.1, ?_⟩
  rcases H.2 with h0 | ⟨g, cap, tl, rfl, hg, r⟩
  · exact .inl h0
  · exact .inr ⟨g, cap, tl, rfl, c.blk hg (hn g (ob_slice.2 rfl)), r⟩
theorem OwnS.more {h h' : Heap} {e : TypeId} {k : Nat} {v : Value} {n : Nat} {xs : List Value} (H : OwnS h e k v n xs) (c : ExtH h h') : OwnS h' e k v n xs :=
  H.keep (S := fun _ => False) c.chg (fun _ _ h => h)
theorem Src.keep {S : Nat → Prop} {h h' : Heap} {k : Nat} {v : Value} {n : Nat} {xs : List Value} (H : Src h k v n xs) (c : Chg S h h') (hn : ∀ b, ob v b → ¬ S b) : Src h' k v n xs := by
  refine ⟨H.1, ?_⟩
  rcases H.2 with h0 | ⟨A, cap, rfl, hc, hm, hr⟩
  · exact .inl h0
  · refine .inr ⟨A, cap, rfl, hc, hm, ?_⟩
    by_cases hx : xs = []
    · subst hx; intro j v hj; simp at hj
    · have hs := hr.spot hx
      exact hr.keep c (hn A.block ⟨A.off, _, _, by rw [← hs]⟩)
theorem Src.more {h h' : Heap} {k : Nat} {v : Value} {n : Nat} {xs : List Value} (H : Src h k v n xs) (c : ExtH h h') : Src h' k v n xs :=
  H.keep (S := fun _ => False) c.chg (fun _ _ h => h)
theorem Src.form {h : Heap} {k : Nat} {v : Value} {n : Nat} {xs : List Value} (H : Src h k v n xs) : ∃ A c, v = .slice A n c ∧ n ≤ c ∧ c ≤ maxLen := by
  rcases H.2 with ⟨rfl, rfl⟩ | ⟨A, cap, rfl, hc, hm, _⟩
  · exact ⟨_, _, rfl, Nat.le_refl _, Nat.zero_le _⟩
  · exact ⟨_, _, rfl, hc, hm⟩
theorem ownsRow_of {w : World} {e : TypeId} {k : Nat} {v : Value} {n : Nat} {xs : List Value} (H : OwnS w.heap e k v n xs) : w.ownsRow 0 e k v n xs := by
  refine ⟨H.1, ?_⟩
  rcases H.2 with h0 | ⟨g, cap, tl, rfl, hg, h1, h2, h3⟩
  · exact .inl h0
  · exact .inr ⟨g, cap, (xs ++ tl).toArray, rfl, Nat.zero_le _, hg, h1, h2, by simpa using h3, by simp [← H.1]⟩
section
variable {P : Program} {t ty e : TypeId} {i : TypeInfo} {z : Value} (ht : P.underlying t = some (.slice e)) (hi : P.info? e = some i) (hz : i.zero = some z) (hzs : z.cells.size = i.size)
/-- what append(v, x...) comes to where v is our own -/
def Appended (e : TypeId) (k : Nat) (v : Value) (h : Heap) (n : Nat) (xs : List Value) (v' : Value) (h' : Heap) : Prop :=
  OwnS h' e k v' n xs ∧ Chg (ob v) h h' ∧ (∀ b, ob v' b → ob v b ∨ h.size ≤ b)
include hzs in
theorem owns_grown {w : World} {k N cap : Nat} (hk : i.size = k) {xs : List Value} (hl : xs.length = N * k) (hc : N ≤ cap) (hm : cap ≤ maxLen) :
    OwnS (w.drew.alloc (.cells (xs.toArray ++ Builtin.zeroCells z.cells (cap - N)) e)).heap e k (.slice (some ⟨w.heap.size, 0, none⟩) N cap) N xs := by
  refine ⟨hl, .inr ⟨w.heap.size, cap, (Builtin.zeroCells z.cells (cap - N)).toList, rfl, ?_, hc, hm, ?_⟩⟩
  · have := heap_alloc_new w.drew (.cells (xs.toArray ++ Builtin.zeroCells z.cells (cap - N)) e)
    unfold Blk
    rw [show (xs ++ (Builtin.zeroCells z.cells (cap - N)).toList).toArray = xs.toArray ++ Builtin.zeroCells z.cells (cap - N) by simp]
    exact this
  · simp only [List.length_append, Array.length_toList, size_zeroCells, hzs, hk, hl]
    rw [← Nat.add_mul]
    congr 1
    omega
theorem alloc_ext (w : World) (o : Obj) : ExtH w.heap (w.drew.alloc o).heap := (Newed.push w.heap o).ext
include ht hi hz hzs in
theorem append_own {k : Nat} (hk : i.size = k) {h : Heap} {v x : Value} {n m : Nat} {xs ds : List Value} (hd : OwnS h e k v n xs) (hs : Src h k x m ds) (h1 : ∀ u ∈ ds, u.oneCell' = true)
    (hm : n + m ≤ maxLen) (hb : (n + m) * i.bytes ≤ 140737488355328) : RunsV P (Builtin.append_ #[t, t] ty #[v, x]) h (Appended e k v h (n + m) (xs ++ ds)) := by
  intro w hw
  subst hw
  subst hk
  have hlen : (xs ++ ds).length = (n + m) * i.size := by rw [List.length_append, hd.1, hs.1, Nat.add_mul]
  have hsmall : n + m ≤ 9223372036854775807 := by simp only [maxLen] at hm; omega
  -- nothing is appended
  have none_ : ∀ x, x = .slice none 0 0 → m = 0 → ∃ v' w', (Builtin.append_ #[t, t] ty #[v, x]).run P w = .ok v' w' ∧ SameEnv w w' ∧ Appended e i.size v w.heap (n + m) (xs ++ ds) v' w'.heap := by
    rintro x rfl rfl
    have hd0 : ds = [] := List.eq_nil_of_length_eq_zero (by simpa using hs.1)
    subst hd0
    refine ⟨v, w, run_append_owned_none w 0 t ty e i i.size ht hi v n xs (ownsRow_of hd), SameEnv.refl w, ?_⟩
    simp only [Nat.add_zero, List.append_nil]
    exact ⟨hd, ⟨Nat.le_refl _, fun _ _ _ => rfl⟩, fun b hb => .inl hb⟩
  rcases hs.2 with ⟨rfl, rfl⟩ | ⟨X, c, rfl, hmc, hcm, hr⟩
  · exact none_ _ rfl rfl
  · have hnews : ∀ j u, ds[j]? = some u → w.cell? (X.add j) = some u := fun j u hu => by rw [cell_eq_rd]; exact hr j u hu
    rcases hd.2 with ⟨rfl, rfl⟩ | ⟨g, cap, tl, rfl, hg, hnc, hcm', hcl⟩
    · have hx : xs = [] := List.eq_nil_of_length_eq_zero (by simpa using hd.1)
      subst hx
      by_cases h0 : m = 0
      · subst h0
        have hd0 : ds = [] := List.eq_nil_of_length_eq_zero (by simpa using hs.1)
        subst hd0
        refine ⟨.slice none 0 0, w, ?_, SameEnv.refl w, ?_⟩
        · simp [Builtin.append_, run_underlying ht, sizeOf, typeInfo, hi, Builtin.lenOf, Builtin.firstCells, loadCells, loadCellsFrom]
        · exact ⟨OwnS.nil _ _ _, ⟨Nat.le_refl _, fun _ _ _ => rfl⟩, fun b hb => .inl hb⟩
      · have hrun := run_append_nil (P := P) w t ty e i z ht hi hz X m c ds hs.1 hnews (by omega) (by omega) (by simp only [Nat.zero_add] at hb; omega)
        refine ⟨_, _, hrun, ⟨rfl, rfl, rfl⟩, ?_, (alloc_ext w _).chg, fun d hd' => .inr (by rw [ob_slice] at hd'; omega)⟩
        simp only [Nat.zero_add, List.nil_append] at hlen hm ⊢
        exact owns_grown hzs rfl hlen (grownCap_ge w m 0 e) (grownCap_le_maxLen w m 0 e hm)
    · by_cases hroom : n + m ≤ cap
      · have hfit : n * i.size + ds.length ≤ (xs ++ tl).toArray.size := by
          rw [hs.1, ← Nat.add_mul]
          simp only [List.size_toArray, hcl]
          exact Nat.mul_le_mul_right _ hroom
        have hrun := run_append_room (P := P) w t ty e i ht hi g n cap (xs ++ tl).toArray hg X m c ds hs.1 hnews h1 hroom hfit
        have hwr := heap_setRow w g (((xs ++ tl).toArray.toList.take (n * i.size) ++ ds ++ (xs ++ tl).toArray.toList.drop (n * i.size + ds.length)).toArray) (xs ++ tl).toArray e hg
        have ecells : (xs ++ tl).toArray.toList.take (n * i.size) ++ ds ++ (xs ++ tl).toArray.toList.drop (n * i.size + ds.length) = (xs ++ ds) ++ tl.drop ds.length := by
          simp only [← hd.1]
          rw [List.take_left, List.drop_append]
          simp
        refine ⟨_, _, hrun, ⟨rfl, rfl, rfl⟩, ⟨hlen, .inr ⟨g, cap, tl.drop ds.length, rfl, ?_, hroom, hcm', ?_⟩⟩, ?_, fun d hd' => .inl (by rw [ob_slice] at hd' ⊢; exact hd')⟩
        · have := hwr.new
          rw [ecells] at this
          simpa [ecells] using this
        · rw [← hcl]
          simp only [List.length_append, List.length_drop, hs.1]
          simp only [List.size_toArray, List.length_append, hd.1] at hfit
          rw [hs.1] at hfit
          rw [hd.1]
          omega
        · exact hwr.chg.mono (fun k _ hk => by rw [ob_slice]; exact hk)
      · have holds : ∀ j u, xs[j]? = some u → w.cell? ((⟨g, 0, none⟩ : Addr).add j) = some u := fun j u hu => by
          rw [add_none, cell_eq_rd]
          exact hg.rdN 0 xs (by simp) j u hu
        have hrun := run_append_grow (P := P) w t ty e i z ht hi hz ⟨g, 0, none⟩ n cap xs hd.1 holds X m c ds hs.1 hnews (by omega) (by omega) (growslice_fits (by omega) hb)
        refine ⟨_, _, hrun, ⟨rfl, rfl, rfl⟩, ?_, (alloc_ext w _).chg, fun d hd' => .inr (by rw [ob_slice] at hd'; omega)⟩
        have := owns_grown (e := e) (w := w) hzs rfl hlen (grownCap_ge w (n + m) cap e) (grownCap_le_maxLen w (n + m) cap e hm)
        simpa using this
end
end Go.Proofs.YtdielfpgekenkaaGreatDoor.Vm
namespace Go.Proofs.YtdielfpgekenkaaGreatDoor.Sha
def rotr (x : UInt32) (n : Nat) : UInt32 := UInt32.ofNat ((x.toNat * 2 ^ (32 - n) % 4294967296) ||| (x.toNat / 2 ^ n))
def K : List UInt32 := [
  0x428a2f98, 0x71374491, 0xb5c0fbcf, 0xe9b5dba5, 0x3956c25b, 0x59f111f1, 0x923f82a4, 0xab1c5ed5,
  0xd807aa98, 0x12835b01, 0x243185be, 0x550c7dc3, 0x72be5d74, 0x80deb1fe, 0x9bdc06a7, 0xc19bf174,
  0xe49b69c1, 0xefbe4786, 0x0fc19dc6, 0x240ca1cc, 0x2de92c6f, 0x4a7484aa, 0x5cb0a9dc, 0x76f988da,
  0x983e5152, 0xa831c66d, 0xb00327c8, 0xbf597fc7, 0xc6e00bf3, 0xd5a79147, 0x06ca6351, 0x14292967,
  0x27b70a85, 0x2e1b2138, 0x4d2c6dfc, 0x53380d13, 0x650a7354, 0x766a0abb, 0x81c2c92e, 0x92722c85,
  0xa2bfe8a1, 0xa81a664b, 0xc24b8b70, 0xc76c51a3, 0xd192e819, 0xd6990624, 0xf40e3585, 0x106aa070,
  0x19a4c116, 0x1e376c08, 0x2748774c, 0x34b0bcb5, 0x391c0cb3, 0x4ed8aa4a, 0x5b9cca4f, 0x682e6ff3,
  0x748f82ee, 0x78a5636f, 0x84c87814, 0x8cc70208, 0x90befffa, 0xa4506ceb, 0xbef9a3f7, 0xc67178f2]
structure S8 where
  (a b c d e f g h : UInt32)
deriving DecidableEq
def S8.list (s : S8) : List UInt32 := [s.a, s.b, s.c, s.d, s.e, s.f, s.g, s.h]
def H0 : S8 := ⟨0x6a09e667, 0xbb67ae85, 0x3c6ef372, 0xa54ff53a, 0x510e527f, 0x9b05688c, 0x1f83d9ab, 0x5be0cd19⟩
def s0 (x : UInt32) : UInt32 := rotr x 7 ^^^ rotr x 18 ^^^ (x >>> 3)
def s1 (x : UInt32) : UInt32 := rotr x 17 ^^^ rotr x 19 ^^^ (x >>> 10)
def S1 (x : UInt32) : UInt32 := rotr x 6 ^^^ rotr x 11 ^^^ rotr x 25
def S0 (x : UInt32) : UInt32 := rotr x 2 ^^^ rotr x 13 ^^^ rotr x 22
def ch (e f g : UInt32) : UInt32 := (e &&& f) ^^^ ((~~~e) &&& g)
def maj (a b c : UInt32) : UInt32 := (a &&& b) ^^^ (a &&& c) ^^^ (b &&& c)
def t1 (s : S8) (k w : UInt32) : UInt32 := s.h + S1 s.e + ch s.e s.f s.g + k + w
def t2 (s : S8) : UInt32 := S0 s.a + maj s.a s.b s.c
def round (s : S8) (k w : UInt32) : S8 := ⟨t1 s k w + t2 s, s.a, s.b, s.c, s.d + t1 s k w, s.e, s.f, s.g⟩
def be (a b c d : UInt8) : UInt32 := UInt32.ofNat (a.toNat * 16777216 + b.toNat * 65536 + c.toNat * 256 + d.toNat)
def word (b : List UInt8) (t : Nat) : UInt32 := be (b.getD (4 * t) 0) (b.getD (4 * t + 1) 0) (b.getD (4 * t + 2) 0) (b.getD (4 * t + 3) 0)
def words (b : List UInt8) : Nat → List UInt32
  | 0 => []
  | n + 1 => words b n ++ [word b n]
/-- the word behind the first t -/
def next (w : List UInt32) (t : Nat) : UInt32 := w.getD (t - 16) 0 + s0 (w.getD (t - 15) 0) + w.getD (t - 7) 0 + s1 (w.getD (t - 2) 0)
def ext (w : List UInt32) : Nat → List UInt32
  | 0 => w
  | n + 1 => ext w n ++ [next (ext w n) (16 + n)]
def sched (b : List UInt8) : List UInt32 := ext (words b 16) 48
def rounds (w : List UInt32) (s : S8) : Nat → S8
  | 0 => s
  | n + 1 => round (rounds w s n) (K.getD n 0) (w.getD n 0)
def add8 (s t : S8) : S8 := ⟨s.a + t.a, s.b + t.b, s.c + t.c, s.d + t.d, s.e + t.e, s.f + t.f, s.g + t.g, s.h + t.h⟩
def compress (s : S8) (b : List UInt8) : S8 := add8 (rounds (sched b) s 64) s
/-- all whole blocks of l, one behind the other; n: at most so many -/
def blocks (s : S8) : Nat → List UInt8 → S8
  | 0, _ => s
  | n + 1, l => if 64 ≤ l.length then blocks (compress s (l.take 64)) n (l.drop 64) else s
/-- a hash as it stands: its words, and the bytes that fill no block yet -/
def feed (s : S8) (l : List UInt8) : S8 := blocks s (l.length / 64) l
def rest (l : List UInt8) : List UInt8 := l.drop (l.length / 64 * 64)
def eight (n : Nat) : List UInt8 :=
  [UInt8.ofNat (n / 72057594037927936), UInt8.ofNat (n / 281474976710656), UInt8.ofNat (n / 1099511627776), UInt8.ofNat (n / 4294967296),
   UInt8.ofNat (n / 16777216), UInt8.ofNat (n / 65536), UInt8.ofNat (n / 256), UInt8.ofNat n]
def zeros (n : Nat) : Nat := (119 - n % 64) % 64
def pad (n : Nat) : List UInt8 := 128 :: List.replicate (zeros n) 0 ++ eight (8 * n)
def wb (x : UInt32) : List UInt8 := [UInt8.ofNat (x.toNat / 16777216), UInt8.ofNat (x.toNat / 65536), UInt8.ofNat (x.toNat / 256), UInt8.ofNat x.toNat]
def bytes (s : S8) : List UInt8 := wb s.a ++ wb s.b ++ wb s.c ++ wb s.d ++ wb s.e ++ wb s.f ++ wb s.g ++ wb s.h
/-- the digest of a hash whose words are s, whose rest is l and that took n bytes -/
def sum (s : S8) (l : List UInt8) (n : Nat) : List UInt8 := bytes (feed s (l ++ pad n))
/-- the digest of a message -/
def digest (m : List UInt8) : List UInt8 := sum (feed H0 m) (rest m) m.length
def abc : List UInt8 := [0xba, 0x78, 0x16, 0xbf, 0x8f, 0x01, 0xcf, 0xea, 0x41, 0x41, 0x40, 0xde, 0x5d, 0xae, 0x22, 0x23, 0xb0, 0x03, 0x61, 0xa3, 0x96, 0x17, 0x7a, 0x9c, 0xb4, 0x10, 0xff, 0x61, 0xf2, 0x00, 0x15, 0xad]
set_option maxRecDepth 100000 in
theorem abc_digest : digest [97, 98, 99] = abc := by decide +kernel

/-! ### plain facts -/
theorem words_length (b : List UInt8) : ∀ n, (words b n).length = n
  | 0 => rfl
  | n + 1 => by simp [words, words_length b n]
theorem ext_length (w : List UInt32) : ∀ n, (ext w n).length = w.length + n
  | 0 => rfl
  | n + 1 => by simp [ext, ext_length w n]; omega
theorem sched_length (b : List UInt8) : (sched b).length = 64 := by simp [sched, ext_length, words_length]
theorem eight_length (n : Nat) : (eight n).length = 8 := rfl
theorem pad_length (n : Nat) : (pad n).length = 9 + zeros n := by simp [pad, eight_length]; omega
theorem bytes_length (s : S8) : (bytes s).length = 32 := rfl
theorem digest_length (m : List UInt8) : (digest m).length = 32 := rfl
theorem sum_length (s : S8) (l : List UInt8) (n : Nat) : (sum s l n).length = 32 := rfl
theorem rest_length (l : List UInt8) : (rest l).length = l.length % 64 := by
  simp [rest]; omega
theorem rest_lt (l : List UInt8) : (rest l).length < 64 := by rw [rest_length]; omega

theorem blocks_zero (s : S8) (n : Nat) {l : List UInt8} (h : l.length < 64) : blocks s n l = s := by
  cases n with
  | zero => rfl
  | succ n => unfold blocks; rw [if_neg (by omega)]
/-- more rounds change nothing -/
theorem blocks_more (n m : Nat) : ∀ (s : S8) (l : List UInt8), l.length / 64 ≤ n → n ≤ m → blocks s m l = blocks s n l := by
  induction n generalizing m with
  | zero => intro s l h _; rw [blocks_zero s m (by omega)]; rfl
  | succ n ih =>
    intro s l h hm
    obtain ⟨m, rfl⟩ : ∃ k, m = k + 1 := ⟨m - 1, by omega⟩
    unfold blocks
    by_cases h6 : 64 ≤ l.length
    · rw [if_pos h6, if_pos h6]
      exact ih m _ _ (by simp; omega) (by omega)
    · rw [if_neg h6, if_neg h6]
theorem feed_lt (s : S8) {l : List UInt8} (h : l.length < 64) : feed s l = s := blocks_zero s _ h
theorem feed_block (s : S8) (l : List UInt8) (h : 64 ≤ l.length) : feed s l = feed (compress s (l.take 64)) (l.drop 64) := by
  unfold feed
  have e : l.length / 64 = (l.drop 64).length / 64 + 1 := by simp; omega
  rw [e]
  conv => lhs; unfold blocks
  rw [if_pos h]
/-- the first k blocks of l, in order -/
def feedN (s : S8) (l : List UInt8) : Nat → S8
  | 0 => s
  | k + 1 => compress (feedN s l k) ((l.drop (64 * k)).take 64)
theorem feedN_first (s : S8) (l : List UInt8) : ∀ k, feedN s l (k + 1) = feedN (compress s (l.take 64)) (l.drop 64) k
  | 0 => by simp [feedN]
  | k + 1 => by
    show compress (feedN s l (k + 1)) _ = compress (feedN _ _ k) _
    rw [feedN_first s l k, List.drop_drop]
    congr 3
    omega
theorem feed_eq (n : Nat) : ∀ (s : S8) (l : List UInt8), l.length / 64 = n → feed s l = feedN s l n := by
  induction n with
  | zero => intro s l h; rw [feed_lt s (by omega)]; rfl
  | succ n ih =>
    intro s l h
    rw [feed_block s l (by omega), feedN_first]
    exact ih _ _ (by simp; omega)
theorem feed_feedN (s : S8) (l : List UInt8) : feed s l = feedN s l (l.length / 64) := feed_eq _ s l rfl
/-- what is behind the blocks that were taken -/
theorem feed_append (n : Nat) : ∀ (s : S8) (l m : List UInt8), l.length / 64 = n → feed s (l ++ m) = feed (feed s l) (rest l ++ m) := by
  induction n with
  | zero =>
    intro s l m h
    rw [feed_lt s (show l.length < 64 by omega)]
    have : rest l = l := by simp [rest, h]
    rw [this]
  | succ n ih =>
    intro s l m h
    rw [feed_block s (l ++ m) (by simp; omega), feed_block s l (by omega)]
    rw [List.take_append_of_le_length (by omega), List.drop_append_of_le_length (by omega), ih _ _ _ (by simp; omega)]
    congr 2
    simp only [rest, List.drop_drop, List.length_drop]
    congr 1
    omega
theorem feed_app (s : S8) (l m : List UInt8) : feed s (l ++ m) = feed (feed s l) (rest l ++ m) := feed_append _ s l m rfl
theorem rest_app (l m : List UInt8) : rest (rest l ++ m) = rest (l ++ m) := by
  have e : l.length / 64 * 64 ≤ l.length := by omega
  simp only [rest, List.length_append, List.length_drop]
  rw [List.drop_append, List.drop_append, List.drop_drop, List.length_drop]
  congr 2 <;> omega
theorem rest_short {l : List UInt8} (h : l.length < 64) : rest l = l := by
  have : l.length / 64 = 0 := by omega
  simp [rest, this]
end Go.Proofs.YtdielfpgekenkaaGreatDoor.Sha
namespace Go.Proofs.YtdielfpgekenkaaGreatDoor
open Go
def u8v (b : UInt8) : Value := .int .u8 (b.toNat : Int)
def u32v (x : UInt32) : Value := .int .u32 (x.toNat : Int)
def u64v (x : UInt64) : Value := .int .u64 (x.toNat : Int)
theorem u32_lt (x : UInt32) : x.toNat < 4294967296 := x.toNat_lt
theorem u8_lt (x : UInt8) : x.toNat < 256 := x.toNat_lt
theorem u64_lt (x : UInt64) : x.toNat < 18446744073709551616 := x.toNat_lt
theorem wrap_add32 (x y : UInt32) : IntKind.u32.wrap ((x.toNat : Int) + y.toNat) = ((x + y).toNat : Int) := by
  rw [IntKind.wrap_u32, UInt32.toNat_add]; omega
theorem xor32 (x y : UInt32) : bits .xor .u32 (x.toNat : Int) (y.toNat : Int) = ((x ^^^ y).toNat : Int) := by
  rw [u32_xor_nat _ _ (u32_lt x) (u32_lt y), UInt32.toNat_xor]
theorem and32 (x y : UInt32) : bits .and .u32 (x.toNat : Int) (y.toNat : Int) = ((x &&& y).toNat : Int) := by
  rw [u32_and_nat _ _ (u32_lt x) (u32_lt y), UInt32.toNat_and]
theorem or32 (x y : UInt32) : bits .or .u32 (x.toNat : Int) (y.toNat : Int) = ((x ||| y).toNat : Int) := by
  rw [u32_or_nat _ _ (u32_lt x) (u32_lt y), UInt32.toNat_or]
theorem not32 (x : UInt32) : bits .xor .u32 4294967295 (x.toNat : Int) = ((~~~x).toNat : Int) := by
  have h := u32_xor_nat 4294967295 x.toNat (by decide) (u32_lt x)
  rw [show ((4294967295 : Nat) : Int) = 4294967295 from rfl] at h
  rw [h]
  have e : (~~~x).toNat = (x.toBitVec ^^^ BitVec.allOnes 32).toNat := by
    rw [BitVec.xor_allOnes]; rfl
  rw [e, BitVec.toNat_xor, Nat.xor_comm]
  rfl
theorem shr32 (x : UInt32) (n : Nat) (hn : n < 32) : (x.toNat : Int) / 2 ^ n = ((x >>> UInt32.ofNat n).toNat : Int) := by
  rw [UInt32.toNat_shiftRight]
  have e : (UInt32.ofNat n).toNat % 32 = n := by simp; omega
  rw [e, Nat.shiftRight_eq_div_pow]
  simp
theorem ofNat32 (n : Nat) (h : n < 4294967296) : (UInt32.ofNat n).toNat = n := by simp; omega
theorem rot_eq (x : UInt32) (s : Nat) (h1 : 1 ≤ s) (h2 : s ≤ 31) :
    bits .or .u32 (IntKind.u32.wrap ((x.toNat : Int) * 2 ^ s)) ((x.toNat : Int) / 2 ^ (32 - s)) = ((Sha.rotr x (32 - s)).toNat : Int) := by
  have e1 : IntKind.u32.wrap ((x.toNat : Int) * 2 ^ s) = ((x.toNat * 2 ^ s % 4294967296 : Nat) : Int) := by
    rw [IntKind.wrap_u32]; simp
  have e2 : (x.toNat : Int) / 2 ^ (32 - s) = ((x.toNat / 2 ^ (32 - s) : Nat) : Int) := by simp
  have hx := u32_lt x
  have b1 : x.toNat * 2 ^ s % 4294967296 < 4294967296 := Nat.mod_lt _ (by decide)
  have b2 : x.toNat / 2 ^ (32 - s) < 4294967296 := Nat.lt_of_le_of_lt (Nat.div_le_self _ _) hx
  rw [e1, e2, u32_or_nat _ _ b1 b2]
  unfold Sha.rotr
  rw [show 32 - (32 - s) = s by omega]
  congr 1
  rw [ofNat32]
  exact Nat.or_lt_two_pow (n := 32) b1 b2
/-! ### bytes -/
theorem and8 (x y : UInt8) : bits .and .u8 (x.toNat : Int) (y.toNat : Int) = ((x &&& y).toNat : Int) := by
  rw [u8_and_nat _ _ (u8_lt x) (u8_lt y), UInt8.toNat_and]
theorem wrap8_nat (n : Nat) : IntKind.u8.wrap (n : Int) = ((UInt8.ofNat n).toNat : Int) := by
  rw [IntKind.wrap_u8]; simp
theorem wrap32_8 (b : UInt8) : IntKind.u32.wrap (b.toNat : Int) = (b.toNat : Int) := by
  have := u8_lt b; rw [IntKind.wrap_u32]; omega
/-- four bytes make a word, the greatest first -/
theorem be_eq (a b c d : UInt8) : bits .or .u32 (bits .or .u32 (bits .or .u32 (IntKind.u32.wrap (IntKind.u32.wrap (a.toNat : Int) * 2 ^ 24)) (IntKind.u32.wrap (IntKind.u32.wrap (b.toNat : Int) * 2 ^ 16)))
    (IntKind.u32.wrap (IntKind.u32.wrap (c.toNat : Int) * 2 ^ 8))) (IntKind.u32.wrap (d.toNat : Int)) = ((Sha.be a b c d).toNat : Int) := by
  have ha := u8_lt a; have hb := u8_lt b; have hc := u8_lt c; have hd := u8_lt d
  have w1 : IntKind.u32.wrap (IntKind.u32.wrap (a.toNat : Int) * 2 ^ 24) = ((a.toNat * 16777216 : Nat) : Int) := by rw [wrap32_8, IntKind.wrap_u32]; omega
  have w2 : IntKind.u32.wrap (IntKind.u32.wrap (b.toNat : Int) * 2 ^ 16) = ((b.toNat * 65536 : Nat) : Int) := by rw [wrap32_8, IntKind.wrap_u32]; omega
  have w3 : IntKind.u32.wrap (IntKind.u32.wrap (c.toNat : Int) * 2 ^ 8) = ((c.toNat * 256 : Nat) : Int) := by rw [wrap32_8, IntKind.wrap_u32]; omega
  have j1 : a.toNat * 16777216 ||| b.toNat * 65536 = a.toNat * 16777216 + b.toNat * 65536 := nat_join 24 _ _ (by omega) (by omega)
  have j2 : a.toNat * 16777216 + b.toNat * 65536 ||| c.toNat * 256 = a.toNat * 16777216 + b.toNat * 65536 + c.toNat * 256 := nat_join 16 _ _ (by omega) (by omega)
  have j3 : a.toNat * 16777216 + b.toNat * 65536 + c.toNat * 256 ||| d.toNat = a.toNat * 16777216 + b.toNat * 65536 + c.toNat * 256 + d.toNat := nat_join 8 _ _ (by omega) (by omega)
  rw [w1, w2, w3, wrap32_8, u32_or_nat _ _ (by omega) (by omega), j1, u32_or_nat _ _ (by omega) (by omega), j2, u32_or_nat _ _ (by omega) (by omega), j3]
  unfold Sha.be
  rw [ofNat32 _ (by omega)]
theorem s0_eq (x : UInt32) : bits .xor .u32 (bits .xor .u32 ((Sha.rotr x 7).toNat : Int) ((Sha.rotr x 18).toNat : Int)) ((x.toNat : Int) / 2 ^ 3) = ((Sha.s0 x).toNat : Int) := by
  rw [shr32 x 3 (by decide), xor32, xor32]; rfl
theorem s1_eq (x : UInt32) : bits .xor .u32 (bits .xor .u32 ((Sha.rotr x 17).toNat : Int) ((Sha.rotr x 19).toNat : Int)) ((x.toNat : Int) / 2 ^ 10) = ((Sha.s1 x).toNat : Int) := by
  rw [shr32 x 10 (by decide), xor32, xor32]; rfl
theorem S1_eq (x : UInt32) : bits .xor .u32 (bits .xor .u32 ((Sha.rotr x 6).toNat : Int) ((Sha.rotr x 11).toNat : Int)) ((Sha.rotr x 25).toNat : Int) = ((Sha.S1 x).toNat : Int) := by
  rw [xor32, xor32]; rfl
theorem S0_eq (x : UInt32) : bits .xor .u32 (bits .xor .u32 ((Sha.rotr x 2).toNat : Int) ((Sha.rotr x 13).toNat : Int)) ((Sha.rotr x 22).toNat : Int) = ((Sha.S0 x).toNat : Int) := by
  rw [xor32, xor32]; rfl
theorem ch_eq (e f g : UInt32) : bits .xor .u32 (bits .and .u32 (e.toNat : Int) (f.toNat : Int)) (bits .and .u32 (bits .xor .u32 4294967295 (e.toNat : Int)) (g.toNat : Int)) = ((Sha.ch e f g).toNat : Int) := by
  rw [not32, and32, and32, xor32]; rfl
theorem maj_eq (a b c : UInt32) : bits .xor .u32 (bits .xor .u32 (bits .and .u32 (a.toNat : Int) (b.toNat : Int)) (bits .and .u32 (a.toNat : Int) (c.toNat : Int))) (bits .and .u32 (b.toNat : Int) (c.toNat : Int)) = ((Sha.maj a b c).toNat : Int) := by
  rw [and32, and32, and32, xor32, xor32]; rfl
theorem t1_eq (s : Sha.S8) (k w : UInt32) : IntKind.u32.wrap (IntKind.u32.wrap (IntKind.u32.wrap (IntKind.u32.wrap ((s.h.toNat : Int) + ((Sha.S1 s.e).toNat : Int)) +
    bits .xor .u32 (bits .and .u32 (s.e.toNat : Int) (s.f.toNat : Int)) (bits .and .u32 (bits .xor .u32 4294967295 (s.e.toNat : Int)) (s.g.toNat : Int))) + (k.toNat : Int)) + (w.toNat : Int)) = ((Sha.t1 s k w).toNat : Int) := by
  rw [ch_eq, wrap_add32, wrap_add32, wrap_add32, wrap_add32]; rfl
theorem t2_eq (s : Sha.S8) : IntKind.u32.wrap (((Sha.S0 s.a).toNat : Int) + bits .xor .u32 (bits .xor .u32 (bits .and .u32 (s.a.toNat : Int) (s.b.toNat : Int)) (bits .and .u32 (s.a.toNat : Int) (s.c.toNat : Int))) (bits .and .u32 (s.b.toNat : Int) (s.c.toNat : Int))) = ((Sha.t2 s).toNat : Int) := by
  rw [maj_eq, wrap_add32]; rfl
theorem next_eq (a b c d : UInt32) : IntKind.u32.wrap (IntKind.u32.wrap (IntKind.u32.wrap ((a.toNat : Int) + (b.toNat : Int)) + (c.toNat : Int)) + (d.toNat : Int)) = ((a + b + c + d).toNat : Int) := by
  rw [wrap_add32, wrap_add32, wrap_add32]
end Go.Proofs.YtdielfpgekenkaaGreatDoor
