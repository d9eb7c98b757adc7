/-
  Regions once more: a comparison, and an operation of integers, is told by a fact of our own, so that what slots hold stays short.
-/
import Derived.Test.YtgecapllodgdeaaGreatDoorVmTree
import Derived.Test.YtgecapllodgdeaaGreatDoorVmSlice
import Derived.Test.YtgecapllodgdeaaGreatDoorShaStr
namespace Go.Proofs.YtgecapllodgdeaaGreatDoor.Vm
open Go
set_option linter.unusedSimpArgs false
def intk2 (op : BinOp) (a : IntKind) (x y : Int) (k : Value → Prop) : Prop :=
  match op with
  | .add => ∃ z, a.wrap (x + y) = z ∧ k (.int a z)
  | .sub => ∃ z, a.wrap (x - y) = z ∧ k (.int a z)
  | .mul => ∃ z, a.wrap (x * y) = z ∧ k (.int a z)
  | .eql => ∃ r, decide (x = y) = r ∧ k (.bool r)
  | .neq => ∃ r, decide (x ≠ y) = r ∧ k (.bool r)
  | .lss => ∃ r, decide (x < y) = r ∧ k (.bool r)
  | .leq => ∃ r, decide (x ≤ y) = r ∧ k (.bool r)
  | .gtr => ∃ r, decide (x > y) = r ∧ k (.bool r)
  | .geq => ∃ r, decide (x ≥ y) = r ∧ k (.bool r)
  | .quo => y ≠ 0 ∧ ∃ z, a.wrap (x.tdiv y) = z ∧ k (.int a z)
  | .rem => y ≠ 0 ∧ ∃ z, x.tmod y = z ∧ k (.int a z)
  | .and => ∃ z, bits .and a x y = z ∧ k (.int a z)
  | .or => ∃ z, bits .or a x y = z ∧ k (.int a z)
  | .xor => ∃ z, bits .xor a x y = z ∧ k (.int a z)
  | .andNot => ∃ z, bits .andNot a x y = z ∧ k (.int a z)
  | op => intk op a x y k
theorem beq_dec {α : Type} [BEq α] [LawfulBEq α] [DecidableEq α] (x y : α) : (x == y) = decide (x = y) := by
  by_cases h : x = y
  · subst h; simp
  · rw [decide_eq_false h]; simpa using h
theorem bne_dec {α : Type} [BEq α] [LawfulBEq α] [DecidableEq α] (x y : α) : (!(x == y)) = decide (x ≠ y) := by
  by_cases h : x = y
  · subst h; simp
  · rw [decide_eq_true h]; simpa using h
theorem intk2_elim {op : BinOp} {a : IntKind} {x y : Int} {k : Value → Prop} (H : intk2 op a x y k) : intk op a x y k := by
  unfold intk2 at H
  split at H
  case h_16 => exact H
  case h_10 => obtain ⟨h0, z, rfl, H⟩ := H; exact ⟨h0, H⟩
  case h_11 => obtain ⟨h0, z, rfl, H⟩ := H; exact ⟨h0, H⟩
  all_goals obtain ⟨z, rfl, H⟩ := H
  case h_4 => exact (show k (.bool (x == y)) from (by rw [beq_dec]; exact H))
  case h_5 => exact (show k (.bool (x != y)) from (by rw [show (x != y) = decide (x ≠ y) from bne_dec x y]; exact H))
  all_goals exact H
def binq2 (P : Program) (op : BinOp) (t : TypeId) (xo yo : Operand) (x y : Value) (k : Value → Prop) : Prop :=
  match x, y with
  | .int a x, .int b y => match op with
    | .shl => 0 ≤ y ∧ ∃ z, a.wrap (x * 2 ^ min y.toNat a.bits) = z ∧ k (.int a z)
    | .shr => 0 ≤ y ∧ ∃ z, x / 2 ^ min y.toNat a.bits = z ∧ k (.int a z)
    | op => if a = b then intk2 op a x y k else False
  | .string x, .string y => match op with
    | .eql => ∃ r, decide (x.toList = y.toList) = r ∧ k (.bool r)
    | .neq => ∃ r, decide (x.toList ≠ y.toList) = r ∧ k (.bool r)
    | op => binq P op t xo yo (.string x) (.string y) k
  | x, y => binq P op t xo yo x y k
theorem binq2_elim {P : Program} {op : BinOp} {t : TypeId} {xo yo : Operand} {x y : Value} {k : Value → Prop} (H : binq2 P op t xo yo x y k) : binq P op t xo yo x y k := by
  unfold binq2 at H
  split at H
  · split at H
    · obtain ⟨h0, z, rfl, H⟩ := H; exact ⟨h0, H⟩
    · obtain ⟨h0, z, rfl, H⟩ := H; exact ⟨h0, H⟩
    · rename_i h1 h2
      split at H
      · rename_i e
        have := intk2_elim H
        subst e
        unfold binq
        cases op <;> first
          | exact absurd rfl h1
          | exact absurd rfl h2
          | (simp only [if_true]; exact this)
      · exact H.elim
  · rename_i x y
    split at H
    · obtain ⟨r, rfl, H⟩ := H
      exact (show k (.bool (x.toList == y.toList)) from (by rw [beq_dec]; exact H))
    · obtain ⟨r, rfl, H⟩ := H
      exact (show k (.bool !(x.toList == y.toList)) from (by rw [bne_dec]; exact H))
    · exact H
  · exact H
def opq2 (P : Program) (o : Oper) (fr : Fr) (h : Heap) (k : Value → Prop) : Prop :=
  match o.op with
  | .binOp op t x y _ => evk fr x fun a => evk fr y fun b => binq2 P op t x y a b k
  | .slice t x lo hi none => evk fr x fun v => match P.underlying t, v with
    | some .string, .string s => bnd fr lo 0 fun l => bnd fr hi s.size fun h => (0 ≤ l ∧ l ≤ h ∧ h ≤ s.size) ∧ ∃ u, s.extract l.toNat h.toNat = u ∧ k (.string u)
    | _, _ => opq P o fr h k
  | .call c => match c.callee with
    | .builtin .len => match c.args[0]?, c.argTypes[0]? with
      | some x, some T => evk fr x fun v => match P.underlying T, v with
        | some .string, .string s => ∃ n : Nat, s.size = n ∧ k (.int .i64 n)
        | _, _ => opq P o fr h k
      | _, _ => opq P o fr h k
    | _ => opq P o fr h k
  | .unOp op _ x => evk fr x fun v => match op, v with
    | .neg, .int kd n => ∃ z, kd.wrap (0 - n) = z ∧ k (.int kd z)
    | .xor, .int kd n => ∃ z, bits .xor kd (if kd.signed then -1 else kd.max) n = z ∧ k (.int kd z)
    | _, _ => opq P o fr h k
  | .convert s t x => evk fr x fun v => match P.underlying s, P.underlying t, v with
    | some _, some (.int kd), .int _ n => ∃ z, kd.wrap n = z ∧ k (.int kd z)
    | _, _, _ => opq P o fr h k
  | _ => opq P o fr h k
theorem bnd_mono {fr : Fr} {x : Option Operand} {d : Nat} {k k' : Int → Prop} (H : bnd fr x d k) (hk : ∀ i, k i → k' i) : bnd fr x d k' := by
  unfold bnd at *
  split at H
  · exact hk _ H
  · unfold evk at *
    split at H
    · rename_i v hv
      split at H
      · exact hk _ H
      · exact H.elim
    · exact H.elim
theorem opq2_elim {P : Program} {o : Oper} {fr : Fr} {h : Heap} {k : Value → Prop} (H : opq2 P o fr h k) : opq P o fr h k := by
  unfold opq2 at H
  split at H
  · rename_i op t x y yt ho
    obtain ⟨u, hu, H⟩ := evk_elim H
    obtain ⟨v, hv, H⟩ := evk_elim H
    unfold opq evk
    simp only [ho, hu, hv]
    exact binq2_elim H
  · rename_i t x lo hi ho
    obtain ⟨v, hv, H⟩ := evk_elim H
    split at H
    · rename_i s ht
      unfold opq evk
      simp only [ho, hv, ht]
      refine bnd_mono H fun l H => bnd_mono H fun j H => ?_
      obtain ⟨h1, u, rfl, H⟩ := H
      exact ⟨h1, H⟩
    · exact H
  · rename_i c ho
    split at H
    · rename_i hc
      split at H
      · rename_i x T hx hT
        obtain ⟨v, hv, H⟩ := evk_elim H
        split at H
        · rename_i s ht
          obtain ⟨n, rfl, H⟩ := H
          unfold opq lenq evk
          simp only [ho, hc, hx, hT, hv, ht]
          exact H
        · exact H
      · exact H
    · exact H
  · rename_i op t x ho
    obtain ⟨v, hv, H⟩ := evk_elim H
    split at H
    · obtain ⟨z, rfl, H⟩ := H
      unfold opq evk
      simp only [ho, hv]
      exact H
    · obtain ⟨z, rfl, H⟩ := H
      unfold opq evk
      simp only [ho, hv]
      exact H
    · exact H
  · rename_i src dst x ho
    obtain ⟨v, hv, H⟩ := evk_elim H
    split at H
    · rename_i hs ht
      obtain ⟨z, rfl, H⟩ := H
      unfold opq evk
      simp only [ho, hv, hs, ht]
      exact H
    · exact H
  · exact H
def opx2 (P : Program) (o : Oper) (fr : Fr) (h : Heap) (k : Value → Heap → Prop) : Prop :=
  match quietOp P o with
  | true => opq2 P o fr h (fun v => k v h)
  | false => opi P o fr h k
theorem opx2_elim {P : Program} {o : Oper} {fr : Fr} {h : Heap} {k : Value → Heap → Prop} (H : opx2 P o fr h k) : opx P o fr h k := by
  unfold opx2 at H
  unfold opx
  split at H
  · rename_i hq; simp only [hq]; exact opq2_elim H
  · rename_i hq; simp only [hq]; exact H
def evG (P : Program) (all : List Oper) : List Oper → Fr → Heap → (Fr → Heap → Prop) → Prop
  | [], fr, h, K => K fr h
  | o :: r, fr, h, K => gk all o fr (opx2 P o fr h fun v h' => evG P all r (put fr o.dst v) h' K) (evG P all r (put fr o.dst undef) h K)
theorem evG_sound {P : Program} {n : Nat} {all : List Oper} {Q : Exit → Act → World → Prop} {K : Fr → Heap → Prop} : ∀ (l : List Oper), (∀ o ∈ l, dok n o.dst) → ∀ (fr : Fr) (h : Heap) (a : Act) (w : World),
    evG P all l fr h K → Hold n fr a → w.heap = h → (∀ fr' a' w', Hold n fr' a' → SameEnv w w' → K fr' w'.heap → Q .normal a' w') → wpList P all.toArray Q l a w
  | [], _, fr, h, a, w, H, hF, hw, hQ => hQ fr a w hF (SameEnv.refl w) (hw ▸ H)
  | o :: r, hd, fr, h, a, w, H, hF, hw, hQ => by
    unfold evG at H
    unfold wpList
    rcases gk_elim H hF with ⟨hg, H⟩ | ⟨hg, H⟩
    · rw [if_pos hg]
      refine .inl (wp_of_comes (opx_sound hF (opx2_elim H) hw) fun v w' hs hk => ?_)
      exact evG_sound r (fun o ho => hd o (by simp [ho])) _ _ _ w' hk (hF.put _ _ (hd o (by simp))) rfl (fun fr' a' w'' h1 h2 h3 => hQ fr' a' w'' h1 (hs.trans h2) h3)
    · rw [if_neg (by simp [hg])]
      exact evG_sound r (fun o ho => hd o (by simp [ho])) _ _ _ w H (hF.put _ _ (hd o (by simp))) hw hQ
def opqc2 (P : Program) (o : Oper) (fr : Fr) (h : Heap) (k : Value → Prop) : Prop :=
  match quietOp P o with
  | true => opq2 P o fr h k
  | false => opqc P o fr h k
theorem opqc2_elim {P : Program} {o : Oper} {fr : Fr} {h : Heap} {k : Value → Prop} (H : opqc2 P o fr h k) : opqc P o fr h k := by
  unfold opqc2 at H
  split at H
  · rename_i hq; unfold opqc; simp only [hq]; exact opq2_elim H
  · exact H
/-- a drawn head of operations that only read -/
def evHG (P : Program) (all : List Oper) (h0 : Heap) (L : Fr → Heap → Prop) : List Nat → Fr → Heap → Prop
  | [], fr, h => ∀ h', ExtH h h' → L fr h'
  | i :: p, fr, h => match all[i]? with
    | none => False
    | some o => gk all o fr (opqc2 P o fr h0 fun v => evHG P all h0 L p (put fr o.dst v) h) (evHG P all h0 L p (put fr o.dst undef) h)
theorem evHG_sound {P : Program} {n : Nat} {all : List Oper} {h0 : Heap} {L : Fr → Heap → Prop} {L' : Act → World → Prop} (hd : ∀ o ∈ all, dok n o.dst) (w0 : World) (hL : ∀ fr a w, Hold n fr a → SameEnv w0 w → L fr w.heap → L' a w) :
    ∀ (p : List Nat) (fr : Fr) (h : Heap) (a : Act) (w : World), evHG P all h0 L p fr h → Hold n fr a → ExtH h w.heap → ExtH h0 w.heap → SameEnv w0 w → wpH P (fun b => b < h0.size) all.toArray (fun _ => false) L' p a w
  | [], fr, h, a, w, H, hF, hw, _, hs => hL fr a w hF hs (H _ hw)
  | i :: p, fr, h, a, w, H, hF, hw, hw0, hs => by
    unfold evHG at H
    unfold wpH
    cases ho : all[i]? with
    | none => simp [ho] at H
    | some o =>
      simp only [ho] at H
      have hdo : dok n o.dst := hd o (List.mem_of_getElem? ho)
      have ho' : all.toArray[i]? = some o := by simpa using ho
      simp only [Bool.false_eq_true, if_false, ho']
      rcases gk_elim H hF with ⟨hg, H⟩ | ⟨hg, H⟩
      · obtain ⟨v, hk, hv⟩ := opqc_sound hF (opqc2_elim H) hw0
        exact ⟨v, .inl ⟨hg, hv⟩, fun w2 h2 => evHG_sound hd w0 hL p _ _ _ w2 hk (hF.put _ _ hdo) (hw.trans h2.heap) (hw0.trans h2.heap) (hs.trans h2.env)⟩
      · exact ⟨undef, .inr ⟨hg, rfl⟩, fun w2 h2 => evHG_sound hd w0 hL p _ _ _ w2 H (hF.put _ _ hdo) (hw.trans h2.heap) (hw0.trans h2.heap) (hs.trans h2.env)⟩
/-- a drawn head, some of whose operations make memory -/
def evH2 (P : Program) (all : List Oper) (imp : Nat → Bool) (h0 : Heap) (L : Fr → Heap → Prop) : List Nat → Fr → Heap → Prop
  | [], fr, h => ∀ h', ExtH h h' → L fr h'
  | i :: p, fr, h => match all[i]? with
    | none => False
    | some o => gk all o fr
        (match imp i with
          | true => ∀ h1, ExtH h h1 → opx2 P o fr h1 fun v h2 => ExtU h0.size h1 h2 ∧ ∀ h3, ExtH h2 h3 → evH2 P all imp h0 L p (put fr o.dst v) h3
          | false => opqc2 P o fr h0 fun v => evH2 P all imp h0 L p (put fr o.dst v) h)
        (evH2 P all imp h0 L p (put fr o.dst undef) h)
theorem evH2_sound {P : Program} {n : Nat} {all : List Oper} {imp : Nat → Bool} {h0 : Heap} {L : Fr → Heap → Prop} {L' : Act → World → Prop} (hd : ∀ o ∈ all, dok n o.dst) (w0 : World) (hL : ∀ fr a w, Hold n fr a → SameEnv w0 w → L fr w.heap → L' a w) :
    ∀ (p : List Nat) (fr : Fr) (h : Heap) (a : Act) (w : World), evH2 P all imp h0 L p fr h → Hold n fr a → ExtH h w.heap → ExtH h0 w.heap → SameEnv w0 w → wpH P (fun b => b < h0.size) all.toArray imp L' p a w
  | [], fr, h, a, w, H, hF, hw, _, hs => hL fr a w hF hs (H _ hw)
  | i :: p, fr, h, a, w, H, hF, hw, hw0, hs => by
    unfold evH2 at H
    unfold wpH
    cases ho : all[i]? with
    | none => simp [ho] at H
    | some o =>
      simp only [ho] at H
      have hdo : dok n o.dst := hd o (List.mem_of_getElem? ho)
      have ho' : all.toArray[i]? = some o := by simpa using ho
      cases him : imp i with
      | true =>
        simp only [him] at H
        simp only [if_true]
        unfold opX
        simp only [ho']
        rcases gk_elim H hF with ⟨hg, H⟩ | ⟨hg, H⟩
        · rw [if_pos hg]
          refine extX_of_comes (k := fun v h3 => ExtH h0 h3 ∧ evH2 P all imp h0 L p (put fr o.dst v) h3) ?_ fun v w' hs' hk => ?_
          · refine (opx_sound hF (opx2_elim (H w.heap hw)) rfl).mono fun v h2 hk => ⟨hk.1.p, fun h3 h23 => ⟨?_, hk.2 h3 h23⟩⟩
            have h02 : ExtH h0 h2 := ⟨Nat.le_trans hw0.size hk.1.size, fun b hb => (hk.1.block b hb (Nat.lt_of_lt_of_le hb hw0.size)).trans (hw0.block b hb)⟩
            exact h02.trans h23
          · exact evH2_sound hd w0 hL p _ _ _ w' hk.2 (hF.put _ _ hdo) (ExtH.refl _) hk.1 (hs.trans hs')
        · rw [if_neg (by simp [hg])]
          exact fun w3 h3 => evH2_sound hd w0 hL p _ _ _ w3 H (hF.put _ _ hdo) (hw.trans h3.heap) (hw0.trans h3.heap) (hs.trans h3.env)
      | false =>
        simp only [him] at H
        simp only [Bool.false_eq_true, if_false, ho']
        rcases gk_elim H hF with ⟨hg, H⟩ | ⟨hg, H⟩
        · obtain ⟨v, hk, hv⟩ := opqc_sound hF (opqc2_elim H) hw0
          exact ⟨v, .inl ⟨hg, hv⟩, fun w2 h2 => evH2_sound hd w0 hL p _ _ _ w2 hk (hF.put _ _ hdo) (hw.trans h2.heap) (hw0.trans h2.heap) (hs.trans h2.env)⟩
        · exact ⟨undef, .inr ⟨hg, rfl⟩, fun w2 h2 => evH2_sound hd w0 hL p _ _ _ w2 H (hF.put _ _ hdo) (hw.trans h2.heap) (hw0.trans h2.heap) (hs.trans h2.env)⟩
section
variable {P : Program} {n : Nat} {Q : Exit → Fr → Heap → Prop} {fr : Fr} {h : Heap}
theorem cw_dgi {id : Nat} {ops : Array Oper} (hm : P.follows .mixedOrders = true) (m : Nat) (imp : Nat → Bool) (p : List Nat) (hB : regB ops m imp p = true) (hd : dstsB n ops.toList = true)
    (H : evH2 P ops.toList imp h (fun fr h => evG P ops.toList (ops.toList.drop m) fr h fun fr h => Q .normal fr h) p fr h) : Cw P n (.region id ops true) Q fr h :=
  ⟨fun w0 a w hF hs hw => by
    refine wp_region_head (fun b => b < h.size) m imp p hm hB ?_
    have := evH2_sound (n := n) (P := P) (all := ops.toList) (imp := imp) (h0 := h) (fun o ho => dok_of hd ho) w0 (L' := fun a' w' => wpList P ops (Post w0 n Q) (ops.toList.drop m) a' w')
      (fun fr1 a' w' hF' hs' hk => by
        have := evG_sound (n := n) (Q := Post w0 n Q) (ops.toList.drop m) (fun o ho => dok_of hd (List.mem_of_mem_drop ho)) fr1 w'.heap a' w' hk hF' rfl (fun fr'' a'' w'' hF'' hs'' hk' => ⟨fr'', hF'', hs'.trans hs'', hk'⟩)
        simpa using this)
      p fr h a { w with drawn := w.drawn + 1 } H hF (hw ▸ ExtH.refl _) (hw ▸ ExtH.refl _) ⟨hs.os, hs.tape, hs.output⟩
    simpa using this⟩
theorem cw_go {id : Nat} {ops : Array Oper} (hd : dstsB n ops.toList = true) (H : evG P ops.toList ops.toList fr h fun fr h => Q .normal fr h) : Cw P n (.region id ops false) Q fr h :=
  ⟨fun w0 a w hF hs hw => wp_region_list (by
    have := evG_sound (n := n) (Q := Post w0 n Q) ops.toList (fun o ho => dok_of hd ho) fr h a w H hF hw (fun fr' a' w' hF' hs' hk => ⟨fr', hF', hs.trans hs', hk⟩)
    simpa using this)⟩
theorem cw_dgo {id : Nat} {ops : Array Oper} (hm : P.follows .mixedOrders = true) (m : Nat) (p : List Nat) (hB : regB ops m (fun _ => false) p = true) (hd : dstsB n ops.toList = true)
    (H : evHG P ops.toList h (fun fr h => evG P ops.toList (ops.toList.drop m) fr h fun fr h => Q .normal fr h) p fr h) : Cw P n (.region id ops true) Q fr h :=
  ⟨fun w0 a w hF hs hw => by
    refine wp_region_head (fun b => b < h.size) m (fun _ => false) p hm hB ?_
    have := evHG_sound (n := n) (P := P) (all := ops.toList) (h0 := h) (fun o ho => dok_of hd ho) w0 (L' := fun a' w' => wpList P ops (Post w0 n Q) (ops.toList.drop m) a' w')
      (fun fr1 a' w' hF' hs' hk => by
        have := evG_sound (n := n) (Q := Post w0 n Q) (ops.toList.drop m) (fun o ho => dok_of hd (List.mem_of_mem_drop ho)) fr1 w'.heap a' w' hk hF' rfl (fun fr'' a'' w'' hF'' hs'' hk' => ⟨fr'', hF'', hs'.trans hs'', hk'⟩)
        simpa using this)
      p fr h a { w with drawn := w.drawn + 1 } H hF (hw ▸ ExtH.refl _) (hw ▸ ExtH.refl _) ⟨hs.os, hs.tape, hs.output⟩
    simpa using this⟩
end
/-! ### what a step is told by -/
theorem say_t {p : Prop} [Decidable p] {k : Bool → Prop} (h : p) (H : k true) : ∃ r, decide p = r ∧ k r := ⟨true, decide_eq_true h, H⟩
theorem say_f {p : Prop} [Decidable p] {k : Bool → Prop} (h : ¬ p) (H : k false) : ∃ r, decide p = r ∧ k r := ⟨false, decide_eq_false h, H⟩
theorem say_d {p : Prop} [Decidable p] {k : Bool → Prop} (H1 : p → k true) (H2 : ¬ p → k false) : ∃ r, decide p = r ∧ k r := by
  by_cases h : p
  · exact say_t h (H1 h)
  · exact say_f h (H2 h)
theorem say_i {x : Int} {k : Int → Prop} (h : -9223372036854775808 ≤ x ∧ x < 9223372036854775808) (H : k x) : ∃ z, IntKind.i64.wrap x = z ∧ k z := ⟨x, by rw [IntKind.wrap_i64]; omega, H⟩
theorem say_v {α : Type} {v : α} {k : α → Prop} (H : k v) : ∃ z, v = z ∧ k z := ⟨v, rfl, H⟩
theorem say_w {x y : Int} {k : Int → Prop} (h : x = y) (H : k y) : ∃ z, x = z ∧ k z := ⟨y, h, H⟩
theorem say_u8 {x : Int} {k : Int → Prop} (h : 0 ≤ x ∧ x < 256) (H : k x) : ∃ z, IntKind.u8.wrap x = z ∧ k z := ⟨x, by rw [IntKind.wrap_u8]; omega, H⟩
theorem say_u32 {x : Int} {k : Int → Prop} (h : 0 ≤ x ∧ x < 4294967296) (H : k x) : ∃ z, IntKind.u32.wrap x = z ∧ k z := ⟨x, by rw [IntKind.wrap_u32]; omega, H⟩
theorem say_u64 {x : Int} {k : Int → Prop} (h : 0 ≤ x ∧ x < 18446744073709551616) (H : k x) : ∃ z, IntKind.u64.wrap x = z ∧ k z := ⟨x, by rw [IntKind.wrap_u64]; omega, H⟩
theorem bs_extract (s : List UInt8) (a b : Nat) : (bs s).extract a b = bs ((s.take b).drop a) := by
  apply ByteArray.ext
  simp only [bs, ByteArray.data_extract, List.extract_toArray]
  rw [List.extract_eq_take_drop]
  congr 1
  rw [← List.drop_take]
theorem say_cut {s : List UInt8} {l h : Int} {k : ByteArray → Prop} (h1 : 0 ≤ l) (h2 : l ≤ h) (h3 : h ≤ s.length) (H : k (bs ((s.take h.toNat).drop l.toNat))) :
    (0 ≤ l ∧ l ≤ h ∧ h ≤ ((bs s).size : Int)) ∧ ∃ u, (bs s).extract l.toNat h.toNat = u ∧ k u := ⟨⟨h1, h2, h3⟩, _, bs_extract _ _ _, H⟩
theorem say_to {s : List UInt8} {h : Int} {k : ByteArray → Prop} (h2 : 0 ≤ h) (h3 : h ≤ s.length) (H : k (bs (s.take h.toNat))) :
    ((0 : Int) ≤ 0 ∧ 0 ≤ h ∧ h ≤ ((bs s).size : Int)) ∧ ∃ u, (bs s).extract (0 : Int).toNat h.toNat = u ∧ k u := ⟨⟨Int.le_refl _, h2, h3⟩, _, bs_extract _ _ _, H⟩
theorem say_from {s : List UInt8} {l : Int} {k : ByteArray → Prop} (h1 : 0 ≤ l) (h2 : l ≤ s.length) (H : k (bs (s.drop l.toNat))) :
    (0 ≤ l ∧ l ≤ ((bs s).size : Int) ∧ ((bs s).size : Int) ≤ ((bs s).size : Int)) ∧ ∃ u, (bs s).extract l.toNat ((bs s).size : Int).toNat = u ∧ k u :=
  ⟨⟨h1, h2, Int.le_refl _⟩, _, (by rw [bs_extract, Int.toNat_natCast, bs_size, List.take_length]), H⟩
theorem say_at {s : List UInt8} {n : Int} {k : UInt8 → Prop} (h : 0 ≤ n ∧ n < s.length) (H : k (s.getD n.toNat 0)) : ∃ b, (0 ≤ n ∧ (bs s)[n.toNat]? = some b) ∧ k b :=
  ⟨_, ⟨h.1, bs_get s _ (by omega)⟩, H⟩
theorem say_len {s : List UInt8} {k : Nat → Prop} (H : k s.length) : ∃ n : Nat, (bs s).size = n ∧ k n := ⟨_, bs_size s, H⟩
theorem say_seq {a b : List UInt8} {k : Bool → Prop} (H1 : a = b → k true) (H2 : a ≠ b → k false) : ∃ r, decide ((bs a).toList = (bs b).toList) = r ∧ k r := by
  rw [bs_toList, bs_toList]; exact say_d H1 H2
theorem say_sne {a b : List UInt8} {k : Bool → Prop} (H1 : a ≠ b → k true) (H2 : a = b → k false) : ∃ r, decide ((bs a).toList ≠ (bs b).toList) = r ∧ k r := by
  rw [bs_toList, bs_toList]; exact say_d H1 (fun h => H2 (Decidable.not_not.1 h))
theorem rd_up {h h' : Heap} {a : Addr} {v : Value} (e : ExtH h h') (r : rd h a = some v) : rd h' a = some v := (e.chg (S := fun _ => False)).rd r (fun e => e)
end Go.Proofs.YtgecapllodgdeaaGreatDoor.Vm
