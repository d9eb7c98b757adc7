/-
  Regions that draw their order, where several operations that make memory are ready at once: a walk for each order of these.
-/
import Derived.Test.YtgecapllodgdeaaGreatDoorVmCode
namespace Go.Proofs.YtgecapllodgdeaaGreatDoor.Vm
open Go
/-- which operation comes next: q: one that only reads; i1, i2, i3: one, or one of two or three that make memory -/
inductive Tree where
  | leaf
  | q (i : Nat) (t : Tree)
  | i1 (i : Nat) (t : Tree)
  | i2 (i : Nat) (s : Tree) (j : Nat) (t : Tree)
  | i3 (i : Nat) (s : Tree) (j : Nat) (t : Tree) (k : Nat) (u : Tree)
section
variable {P : Program} {ops : Array Oper} {md : Region.Mode} {B : Nat → Prop}
def wpT (P : Program) (B : Nat → Prop) (ops : Array Oper) (L : Act → World → Prop) : Tree → Act → World → Prop
  | .leaf, a, w => L a w
  | .q i t, a, w => match ops[i]? with
    | none => False
    | some o => ∃ v, Stays P B ops o v a w ∧ ∀ w2, Ext w w2 → wpT P B ops L t (a.put o.dst v) w2
  | .i1 i t, a, w => opX P B ops i (wpT P B ops L t) a w
  | .i2 i s j t, a, w => opX P B ops i (wpT P B ops L s) a w ∧ opX P B ops j (wpT P B ops L t) a w
  | .i3 i s j t k u, a, w => opX P B ops i (wpT P B ops L s) a w ∧ opX P B ops j (wpT P B ops L t) a w ∧ opX P B ops k (wpT P B ops L u) a w
def treeB (md : Region.Mode) (ops : Array Oper) (n : Nat) : Nat → Tree → Array Bool → Bool
  | 0, .leaf, listed => Region.seqB md ops (ops.size - n) n listed
  | f + 1, .q i t, listed => decide (i < n) && (Region.ready md ops listed).contains i && Region.free md ops listed i && treeB md ops n f t (listed.setIfInBounds i true)
  | f + 1, .i1 i t, listed => decide (i < n) && decide (Region.ready md ops listed = [i]) && treeB md ops n f t (listed.setIfInBounds i true)
  | f + 1, .i2 i s j t, listed => decide (i < n) && decide (j < n) && decide (Region.ready md ops listed = [i, j]) && treeB md ops n f s (listed.setIfInBounds i true) && treeB md ops n f t (listed.setIfInBounds j true)
  | f + 1, .i3 i s j t k u, listed => decide (i < n) && decide (j < n) && decide (k < n) && decide (Region.ready md ops listed = [i, j, k]) && treeB md ops n f s (listed.setIfInBounds i true) && treeB md ops n f t (listed.setIfInBounds j true) && treeB md ops n f u (listed.setIfInBounds k true)
  | _, _, _ => false
theorem wpX_of_wpT {n : Nat} {L : Act → World → Prop} (hsel : Region.noSelect ops = true) (hs : Region.sinkB md ops n = true) (hc : Region.chainB md ops n = true) (hn : n < ops.size) :
    ∀ (f : Nat) (t : Tree) (listed : Array Bool) (a : Act) (w : World), HeadInv md ops n listed → treeB md ops n f t listed = true → wpT P B ops L t a w →
      wpX P B md ops n (fun listed' a' w' => Region.seqB md ops (ops.size - n) n listed' = true ∧ L a' w') f listed a w := by
  intro f
  induction f with
  | zero =>
    intro t listed a w _ hB h
    cases t with
    | leaf => exact ⟨hB, h⟩
    | _ => simp [treeB] at hB
  | succ f ih =>
    intro t listed a w inv hB h
    have go : ∀ (r : List Nat), Region.ready md ops listed = r → r ≠ [] → (∀ i ∈ r, i < n ∧ opX P B ops i (wpX P B md ops n (fun listed' a' w' => Region.seqB md ops (ops.size - n) n listed' = true ∧ L a' w') f (listed.setIfInBounds i true)) a w) →
        wpX P B md ops n (fun listed' a' w' => Region.seqB md ops (ops.size - n) n listed' = true ∧ L a' w') (f + 1) listed a w := fun r hr hne H =>
      ⟨fun h0 => hne (hr ▸ h0), fun j hj => H j (hr ▸ hj)⟩
    cases t with
    | leaf => simp [treeB] at hB
    | q i t =>
      simp only [treeB, Bool.and_eq_true, decide_eq_true_eq] at hB
      obtain ⟨⟨⟨hin, hr⟩, hk⟩, hB'⟩ := hB
      have hr' : i ∈ Region.ready md ops listed := by simpa using hr
      unfold wpT at h
      cases ho : ops[i]? with
      | none => simp [ho] at h
      | some o =>
        simp only [ho] at h
        obtain ⟨v, hy, hK⟩ := h
        exact wpX_first ho (Region.noSelect_spec hsel) hs hc hn hin (fun listed' a' w' hL => seqB_ready hL.1) f listed a w inv (Region.free_spec ho hk) hr' hy
          (fun w2 h2 => ih t _ _ w2 (inv.set hr' hin) hB' (hK w2 h2))
    | i1 i t =>
      simp only [treeB, Bool.and_eq_true, decide_eq_true_eq] at hB
      obtain ⟨⟨hin, hr⟩, hB'⟩ := hB
      refine go _ hr (by simp) (fun j hj => ?_)
      have : j = i := by simpa using hj
      subst this
      exact ⟨hin, opX_mono (fun a' w' _ h' => ih t _ a' w' (inv.set (by rw [hr]; simp) hin) hB' h') h⟩
    | i2 i s j t =>
      simp only [treeB, Bool.and_eq_true, decide_eq_true_eq] at hB
      obtain ⟨⟨⟨⟨hin, hjn⟩, hr⟩, hB1⟩, hB2⟩ := hB
      refine go _ hr (by simp) (fun m hm => ?_)
      simp only [List.mem_cons, List.not_mem_nil, or_false] at hm
      rcases hm with rfl | rfl
      · exact ⟨hin, opX_mono (fun a' w' _ h' => ih s _ a' w' (inv.set (by rw [hr]; simp) hin) hB1 h') h.1⟩
      · exact ⟨hjn, opX_mono (fun a' w' _ h' => ih t _ a' w' (inv.set (by rw [hr]; simp) hjn) hB2 h') h.2⟩
    | i3 i s j t k u =>
      simp only [treeB, Bool.and_eq_true, decide_eq_true_eq] at hB
      obtain ⟨⟨⟨⟨⟨⟨hin, hjn⟩, hkn⟩, hr⟩, hB1⟩, hB2⟩, hB3⟩ := hB
      refine go _ hr (by simp) (fun m hm => ?_)
      simp only [List.mem_cons, List.not_mem_nil, or_false] at hm
      rcases hm with rfl | rfl | rfl
      · exact ⟨hin, opX_mono (fun a' w' _ h' => ih s _ a' w' (inv.set (by rw [hr]; simp) hin) hB1 h') h.1⟩
      · exact ⟨hjn, opX_mono (fun a' w' _ h' => ih t _ a' w' (inv.set (by rw [hr]; simp) hjn) hB2 h') h.2.1⟩
      · exact ⟨hkn, opX_mono (fun a' w' _ h' => ih u _ a' w' (inv.set (by rw [hr]; simp) hkn) hB3 h') h.2.2⟩
def regT (ops : Array Oper) (n : Nat) (t : Tree) : Bool :=
  Region.noSelect ops && decide (n < ops.size) && Region.sinkB .any ops n && Region.chainB .any ops n && treeB .any ops n n t (Array.replicate ops.size false)
theorem wp_region_tree {id : Nat} {Q : Exit → Act → World → Prop} {a : Act} {w : World} (B : Nat → Prop) (n : Nat) (t : Tree) (hm : P.follows .mixedOrders = true) (hB : regT ops n t = true)
    (h : wpT P B ops (fun a' w' => wpList P ops Q (ops.toList.drop n) a' w') t a { w with drawn := w.drawn + 1 }) : (Code.region id ops true).wp P Q a w := by
  simp only [regT, Bool.and_eq_true, decide_eq_true_eq] at hB
  obtain ⟨⟨⟨⟨hsel, hn⟩, hs⟩, hc⟩, hh⟩ := hB
  have inv0 : HeadInv .any ops n (Array.replicate ops.size false) :=
    ⟨by simp, fun j oj _ hl => (by rw [getD_replicate_false] at hl; cases hl), fun t _ ht => getD_in (by simpa using ht) (getD_replicate_false _ _)⟩
  refine wp_region_any hm ?_
  have h1 := wpX_of_wpT hsel hs hc hn n t _ a _ inv0 hh h
  have h2 := wpAny_of_wpX (g := ops.size - n) (Q := Q) (fun listed a' w' hL =>
    have hl : (ops.toList.drop n).length = ops.size - n := by simp
    hl ▸ wpAny_of_seq (ops.toList.drop n) n listed a' w' (by simp) (by rw [hl]; exact hL.1) hL.2) n _ a _ h1
  rwa [Nat.add_sub_cancel' (Nat.le_of_lt hn)] at h2
end
/-! ### over frames -/
def evI (P : Program) (all : List Oper) (h0 : Heap) (K : Fr → Heap → Prop) (i : Nat) (fr : Fr) (h : Heap) : Prop :=
  match all[i]? with
  | none => False
  | some o => gk all o fr (∀ h1, ExtH h h1 → opx P o fr h1 fun v h2 => ExtU h0.size h1 h2 ∧ ∀ h3, ExtH h2 h3 → K (put fr o.dst v) h3) (∀ h3, ExtH h h3 → K (put fr o.dst undef) h3)
def evT (P : Program) (all : List Oper) (h0 : Heap) (L : Fr → Heap → Prop) : Tree → Fr → Heap → Prop
  | .leaf, fr, h => ∀ h', ExtH h h' → L fr h'
  | .q i t, fr, h => match all[i]? with
    | none => False
    | some o => gk all o fr (opqc P o fr h0 fun v => evT P all h0 L t (put fr o.dst v) h) (evT P all h0 L t (put fr o.dst undef) h)
  | .i1 i t, fr, h => evI P all h0 (evT P all h0 L t) i fr h
  | .i2 i s j t, fr, h => evI P all h0 (evT P all h0 L s) i fr h ∧ evI P all h0 (evT P all h0 L t) j fr h
  | .i3 i s j t k u, fr, h => evI P all h0 (evT P all h0 L s) i fr h ∧ evI P all h0 (evT P all h0 L t) j fr h ∧ evI P all h0 (evT P all h0 L u) k fr h
theorem evI_sound {P : Program} {n : Nat} {all : List Oper} {h0 : Heap} {K : Fr → Heap → Prop} {K' : Act → World → Prop} (hd : ∀ o ∈ all, dok n o.dst) (w0 : World) {i : Nat} {fr : Fr} {h : Heap} {a : Act} {w : World}
    (hK : ∀ fr h a w, K fr h → Hold n fr a → h = w.heap → ExtH h0 w.heap → SameEnv w0 w → K' a w) (H : evI P all h0 K i fr h) (hF : Hold n fr a) (hw : ExtH h w.heap) (hw0 : ExtH h0 w.heap) (hs : SameEnv w0 w) : opX P (fun b => b < h0.size) all.toArray i K' a w := by
  unfold evI at H
  cases ho : all[i]? with
  | none => simp [ho] at H
  | some o =>
    simp only [ho] at H
    have hdo : dok n o.dst := hd o (List.mem_of_getElem? ho)
    have ho' : all.toArray[i]? = some o := by simpa using ho
    unfold opX
    simp only [ho']
    rcases gk_elim H hF with ⟨hg, H⟩ | ⟨hg, H⟩
    · rw [if_pos hg]
      refine extX_of_comes (k := fun v h3 => ExtH h0 h3 ∧ K (put fr o.dst v) h3) ?_ fun v w' hs' hk => ?_
      · refine (opx_sound hF (H w.heap hw) rfl).mono fun v h2 hk => ⟨hk.1.p, fun h3 h23 => ⟨?_, hk.2 h3 h23⟩⟩
        have h02 : ExtH h0 h2 := ⟨Nat.le_trans hw0.size hk.1.size, fun b hb => (hk.1.block b hb (Nat.lt_of_lt_of_le hb hw0.size)).trans (hw0.block b hb)⟩
        exact h02.trans h23
      · exact hK _ _ _ w' hk.2 (hF.put _ _ hdo) rfl hk.1 (hs.trans hs')
    · rw [if_neg (by simp [hg])]
      exact fun w3 h3 => hK _ _ _ w3 (H w3.heap (hw.trans h3.heap)) (hF.put _ _ hdo) rfl (hw0.trans h3.heap) (hs.trans h3.env)
theorem evT_sound {P : Program} {n : Nat} {all : List Oper} {h0 : Heap} {L : Fr → Heap → Prop} {L' : Act → World → Prop} (hd : ∀ o ∈ all, dok n o.dst) (w0 : World) (hL : ∀ fr a w, Hold n fr a → SameEnv w0 w → L fr w.heap → L' a w) :
    ∀ (t : Tree) (fr : Fr) (h : Heap) (a : Act) (w : World), evT P all h0 L t fr h → Hold n fr a → ExtH h w.heap → ExtH h0 w.heap → SameEnv w0 w → wpT P (fun b => b < h0.size) all.toArray L' t a w
  | .leaf, fr, h, a, w, H, hF, hw, _, hs => hL fr a w hF hs (H _ hw)
  | .q i t, fr, h, a, w, H, hF, hw, hw0, hs => by
    unfold evT at H
    unfold wpT
    cases ho : all[i]? with
    | none => simp [ho] at H
    | some o =>
      simp only [ho] at H
      have hdo : dok n o.dst := hd o (List.mem_of_getElem? ho)
      have ho' : all.toArray[i]? = some o := by simpa using ho
      simp only [ho']
      rcases gk_elim H hF with ⟨hg, H⟩ | ⟨hg, H⟩
      · obtain ⟨v, hk, hv⟩ := opqc_sound hF H hw0
        exact ⟨v, .inl ⟨hg, hv⟩, fun w2 h2 => evT_sound hd w0 hL t _ _ _ w2 hk (hF.put _ _ hdo) (hw.trans h2.heap) (hw0.trans h2.heap) (hs.trans h2.env)⟩
      · exact ⟨undef, .inr ⟨hg, rfl⟩, fun w2 h2 => evT_sound hd w0 hL t _ _ _ w2 H (hF.put _ _ hdo) (hw.trans h2.heap) (hw0.trans h2.heap) (hs.trans h2.env)⟩
  | .i1 i t, fr, h, a, w, H, hF, hw, hw0, hs =>
    evI_sound hd w0 (fun fr h a w hk hF e h0w hs => evT_sound hd w0 hL t fr h a w hk hF (e ▸ ExtH.refl _) h0w hs) H hF hw hw0 hs
  | .i2 i s j t, fr, h, a, w, H, hF, hw, hw0, hs =>
    ⟨evI_sound hd w0 (fun fr h a w hk hF e h0w hs => evT_sound hd w0 hL s fr h a w hk hF (e ▸ ExtH.refl _) h0w hs) H.1 hF hw hw0 hs,
     evI_sound hd w0 (fun fr h a w hk hF e h0w hs => evT_sound hd w0 hL t fr h a w hk hF (e ▸ ExtH.refl _) h0w hs) H.2 hF hw hw0 hs⟩
  | .i3 i s j t k u, fr, h, a, w, H, hF, hw, hw0, hs =>
    ⟨evI_sound hd w0 (fun fr h a w hk hF e h0w hs => evT_sound hd w0 hL s fr h a w hk hF (e ▸ ExtH.refl _) h0w hs) H.1 hF hw hw0 hs,
     evI_sound hd w0 (fun fr h a w hk hF e h0w hs => evT_sound hd w0 hL t fr h a w hk hF (e ▸ ExtH.refl _) h0w hs) H.2.1 hF hw hw0 hs,
     evI_sound hd w0 (fun fr h a w hk hF e h0w hs => evT_sound hd w0 hL u fr h a w hk hF (e ▸ ExtH.refl _) h0w hs) H.2.2 hF hw hw0 hs⟩
theorem cw_tree {P : Program} {n : Nat} {Q : Exit → Fr → Heap → Prop} {fr : Fr} {h : Heap} {id : Nat} {ops : Array Oper} (hm : P.follows .mixedOrders = true) (m : Nat) (t : Tree) (hB : regT ops m t = true) (hd : dstsB n ops.toList = true)
    (H : evT P ops.toList h (fun fr h => evOps P ops.toList (ops.toList.drop m) fr h fun fr h => Q .normal fr h) t fr h) : Cw P n (.region id ops true) Q fr h :=
  ⟨fun w0 a w hF hs hw => by
    refine wp_region_tree (fun b => b < h.size) m t hm hB ?_
    have := evT_sound (n := n) (P := P) (all := ops.toList) (h0 := h) (fun o ho => dok_of hd ho) w0 (L' := fun a' w' => wpList P ops (Post w0 n Q) (ops.toList.drop m) a' w')
      (fun fr1 a' w' hF' hs' hk => by
        have := evOps_sound (n := n) (Q := Post w0 n Q) (ops.toList.drop m) (fun o ho => dok_of hd (List.mem_of_mem_drop ho)) fr1 w'.heap a' w' hk hF' rfl (fun fr'' a'' w'' hF'' hs'' hk' => ⟨fr'', hF'', hs'.trans hs'', hk'⟩)
        simpa using this)
      t fr h a { w with drawn := w.drawn + 1 } H hF (hw ▸ ExtH.refl _) (hw ▸ ExtH.refl _) ⟨hs.os, hs.tape, hs.output⟩
    simpa using this⟩
/-- the same, where the leaves agree on what they keep -/
theorem cw_tree_to {P : Program} {n : Nat} {Q : Exit → Fr → Heap → Prop} {fr : Fr} {h : Heap} {id : Nat} {ops : Array Oper} (hm : P.follows .mixedOrders = true) (m : Nat) (t : Tree) (hB : regT ops m t = true) (hd : dstsB n ops.toList = true)
    (G : Fr → Heap → Prop) (H : evT P ops.toList h (fun fr h => ∃ fr', Sub fr' fr ∧ G fr' h) t fr h) (H2 : ∀ fr' h', G fr' h' → evOps P ops.toList (ops.toList.drop m) fr' h' fun fr h => Q .normal fr h) : Cw P n (.region id ops true) Q fr h :=
  ⟨fun w0 a w hF hs hw => by
    refine wp_region_tree (fun b => b < h.size) m t hm hB ?_
    have := evT_sound (n := n) (P := P) (all := ops.toList) (h0 := h) (fun o ho => dok_of hd ho) w0 (L' := fun a' w' => wpList P ops (Post w0 n Q) (ops.toList.drop m) a' w')
      (fun fr1 a' w' hF' hs' ⟨fr2, hsub, hk⟩ => by
        have := evOps_sound (n := n) (Q := Post w0 n Q) (ops.toList.drop m) (fun o ho => dok_of hd (List.mem_of_mem_drop ho)) fr2 w'.heap a' w' (H2 _ _ hk) (hF'.sub hsub) rfl (fun fr'' a'' w'' hF'' hs'' hk' => ⟨fr'', hF'', hs'.trans hs'', hk'⟩)
        simpa using this)
      t fr h a { w with drawn := w.drawn + 1 } H hF (hw ▸ ExtH.refl _) (hw ▸ ExtH.refl _) ⟨hs.os, hs.tape, hs.output⟩
    simpa using this⟩
/-! ### where the head writes into a block that none of its reading operations looks at: K, the blocks that stay -/
def evKI (P : Program) (all : List Oper) (K : Nat → Prop) (k : Fr → Heap → Prop) (i : Nat) (fr : Fr) (h : Heap) : Prop :=
  match all[i]? with
  | none => False
  | some o => gk all o fr (∀ h1, ExtH h h1 → opx P o fr h1 fun v h2 => ExtP K h1 h2 ∧ ∀ h3, ExtH h2 h3 → k (put fr o.dst v) h3) (∀ h3, ExtH h h3 → k (put fr o.dst undef) h3)
def evK (P : Program) (all : List Oper) (K : Nat → Prop) (h0 : Heap) (L : Fr → Heap → Prop) : Tree → Fr → Heap → Prop
  | .leaf, fr, h => ∀ h', ExtH h h' → L fr h'
  | .q i t, fr, h => match all[i]? with
    | none => False
    | some o => gk all o fr (∃ v, (∀ h1, ExtP K h0 h1 → opqc P o fr h1 fun u => u = v) ∧ evK P all K h0 L t (put fr o.dst v) h) (evK P all K h0 L t (put fr o.dst undef) h)
  | .i1 i t, fr, h => evKI P all K (evK P all K h0 L t) i fr h
  | .i2 i s j t, fr, h => evKI P all K (evK P all K h0 L s) i fr h ∧ evKI P all K (evK P all K h0 L t) j fr h
  | .i3 i s j t k u, fr, h => evKI P all K (evK P all K h0 L s) i fr h ∧ evKI P all K (evK P all K h0 L t) j fr h ∧ evKI P all K (evK P all K h0 L u) k fr h
theorem evKI_sound {P : Program} {n : Nat} {all : List Oper} {K : Nat → Prop} {h0 : Heap} {k : Fr → Heap → Prop} {K' : Act → World → Prop} (hd : ∀ o ∈ all, dok n o.dst) (w0 : World) {i : Nat} {fr : Fr} {h : Heap} {a : Act} {w : World}
    (hK : ∀ fr h a w, k fr h → Hold n fr a → h = w.heap → ExtP K h0 w.heap → SameEnv w0 w → K' a w) (H : evKI P all K k i fr h) (hF : Hold n fr a) (hw : ExtH h w.heap) (hw0 : ExtP K h0 w.heap) (hs : SameEnv w0 w) : opX P K all.toArray i K' a w := by
  unfold evKI at H
  cases ho : all[i]? with
  | none => simp [ho] at H
  | some o =>
    simp only [ho] at H
    have hdo : dok n o.dst := hd o (List.mem_of_getElem? ho)
    have ho' : all.toArray[i]? = some o := by simpa using ho
    unfold opX
    simp only [ho']
    rcases gk_elim H hF with ⟨hg, H⟩ | ⟨hg, H⟩
    · rw [if_pos hg]
      refine extX_of_comes (k := fun v h3 => ExtP K h0 h3 ∧ k (put fr o.dst v) h3) ?_ fun v w' hs' hk => ?_
      · exact (opx_sound hF (H w.heap hw) rfl).mono fun v h2 hk => ⟨hk.1, fun h3 h23 => ⟨(hw0.trans hk.1).trans (h23.toP K), hk.2 h3 h23⟩⟩
      · exact hK _ _ _ w' hk.2 (hF.put _ _ hdo) rfl hk.1 (hs.trans hs')
    · rw [if_neg (by simp [hg])]
      exact fun w3 h3 => hK _ _ _ w3 (H w3.heap (hw.trans h3.heap)) (hF.put _ _ hdo) rfl (hw0.trans (h3.heap.toP K)) (hs.trans h3.env)
theorem evK_sound {P : Program} {n : Nat} {all : List Oper} {K : Nat → Prop} {h0 : Heap} {L : Fr → Heap → Prop} {L' : Act → World → Prop} (hd : ∀ o ∈ all, dok n o.dst) (w0 : World) (hL : ∀ fr a w, Hold n fr a → SameEnv w0 w → L fr w.heap → L' a w) :
    ∀ (t : Tree) (fr : Fr) (h : Heap) (a : Act) (w : World), evK P all K h0 L t fr h → Hold n fr a → ExtH h w.heap → ExtP K h0 w.heap → SameEnv w0 w → wpT P K all.toArray L' t a w
  | .leaf, fr, h, a, w, H, hF, hw, _, hs => hL fr a w hF hs (H _ hw)
  | .q i t, fr, h, a, w, H, hF, hw, hw0, hs => by
    unfold evK at H
    unfold wpT
    cases ho : all[i]? with
    | none => simp [ho] at H
    | some o =>
      simp only [ho] at H
      have hdo : dok n o.dst := hd o (List.mem_of_getElem? ho)
      have ho' : all.toArray[i]? = some o := by simpa using ho
      simp only [ho']
      rcases gk_elim H hF with ⟨hg, H⟩ | ⟨hg, H⟩
      · obtain ⟨v, hv, hk⟩ := H
        refine ⟨v, .inl ⟨hg, fun w1 e => ?_⟩, fun w2 h2 => evK_sound hd w0 hL t _ _ _ w2 hk (hF.put _ _ hdo) (hw.trans h2.heap) (hw0.trans (h2.heap.toP K)) (hs.trans h2.env)⟩
        obtain ⟨u, rfl, hu⟩ := opqc_sound hF (hv w1.heap (hw0.trans e.heap)) (ExtH.refl _)
        exact hu w1 (ExtB.refl _ _)
      · exact ⟨undef, .inr ⟨hg, rfl⟩, fun w2 h2 => evK_sound hd w0 hL t _ _ _ w2 H (hF.put _ _ hdo) (hw.trans h2.heap) (hw0.trans (h2.heap.toP K)) (hs.trans h2.env)⟩
  | .i1 i t, fr, h, a, w, H, hF, hw, hw0, hs =>
    evKI_sound hd w0 (fun fr h a w hk hF e h0w hs => evK_sound hd w0 hL t fr h a w hk hF (e ▸ ExtH.refl _) h0w hs) H hF hw hw0 hs
  | .i2 i s j t, fr, h, a, w, H, hF, hw, hw0, hs =>
    ⟨evKI_sound hd w0 (fun fr h a w hk hF e h0w hs => evK_sound hd w0 hL s fr h a w hk hF (e ▸ ExtH.refl _) h0w hs) H.1 hF hw hw0 hs,
     evKI_sound hd w0 (fun fr h a w hk hF e h0w hs => evK_sound hd w0 hL t fr h a w hk hF (e ▸ ExtH.refl _) h0w hs) H.2 hF hw hw0 hs⟩
  | .i3 i s j t k u, fr, h, a, w, H, hF, hw, hw0, hs =>
    ⟨evKI_sound hd w0 (fun fr h a w hk hF e h0w hs => evK_sound hd w0 hL s fr h a w hk hF (e ▸ ExtH.refl _) h0w hs) H.1 hF hw hw0 hs,
     evKI_sound hd w0 (fun fr h a w hk hF e h0w hs => evK_sound hd w0 hL t fr h a w hk hF (e ▸ ExtH.refl _) h0w hs) H.2.1 hF hw hw0 hs,
     evKI_sound hd w0 (fun fr h a w hk hF e h0w hs => evK_sound hd w0 hL u fr h a w hk hF (e ▸ ExtH.refl _) h0w hs) H.2.2 hF hw hw0 hs⟩
theorem cw_keeps {P : Program} {n : Nat} {Q : Exit → Fr → Heap → Prop} {fr : Fr} {h : Heap} {id : Nat} {ops : Array Oper} (hm : P.follows .mixedOrders = true) (m : Nat) (K : Nat → Prop) (t : Tree) (hB : regT ops m t = true) (hd : dstsB n ops.toList = true)
    (H : evK P ops.toList K h (fun fr h => evOps P ops.toList (ops.toList.drop m) fr h fun fr h => Q .normal fr h) t fr h) : Cw P n (.region id ops true) Q fr h :=
  ⟨fun w0 a w hF hs hw => by
    refine wp_region_tree K m t hm hB ?_
    have := evK_sound (n := n) (P := P) (all := ops.toList) (K := K) (h0 := h) (fun o ho => dok_of hd ho) w0 (L' := fun a' w' => wpList P ops (Post w0 n Q) (ops.toList.drop m) a' w')
      (fun fr1 a' w' hF' hs' hk => by
        have := evOps_sound (n := n) (Q := Post w0 n Q) (ops.toList.drop m) (fun o ho => dok_of hd (List.mem_of_mem_drop ho)) fr1 w'.heap a' w' hk hF' rfl (fun fr'' a'' w'' hF'' hs'' hk' => ⟨fr'', hF'', hs'.trans hs'', hk'⟩)
        simpa using this)
      t fr h a { w with drawn := w.drawn + 1 } H hF (hw ▸ ExtH.refl _) (hw ▸ ExtP.refl _ _) ⟨hs.os, hs.tape, hs.output⟩
    simpa using this⟩
end Go.Proofs.YtgecapllodgdeaaGreatDoor.Vm
