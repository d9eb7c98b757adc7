/-
  Regions once more: a comparison, and an operation of integers, is told by a fact of our own, so that what slots hold stays short.
  `==` of structures and arrays of plain values (numbers, truths, texts): their literals are the same.
  One operation of a drawn region's head, with the value that we say; quiet calls.
  An operation whose guard is of an operation that was skipped itself.
  Compilers that nobody made: a nil one, a plain one; every call stops at ready.
  A piece of code up to a frame that we say, then the rest.
  IncrNobody: the walk of the law.
-/
import Derived.Test.YtdielfpgekenkaaGreatDoorJ3
import Derived.Test.YtdielfpgekenkaaGreatDoorJ5
import Derived.DeepKeys
namespace Go.Proofs.YtdielfpgekenkaaGreatDoor.Vm
open Go
variable {ds : List Deferred}
set_option linter.unusedSimpArgs false
def intk2 (op : BinOp) (a : IntKind) (x y : Int) (k : Value → Prop) : Prop :=
  match op with
  | .add => ∃ z, a.wrap (x + y) = z ∧ k (.int a z)
  | .sub => ∃ z, a.wrap (x - y) = z ∧ k (.int a z)
  | .mul => ∃ z, a.wrap (x * y) = z ∧ k (.int a z)
  | .eql => ∃ r, decide (x = y) = r ∧ k (.bool r)
  | .neq => ∃ r, decide (x ≠ y) = r ∧ k (.bool r)
  | .lss => ∃ r, decide (x < y) = r ∧ k (.bool r)
  | .leq => ∃ r, decide (x ≤ y) = r ∧ k (.bool r)
  | .gtr => ∃ r, decide (x > y) = r ∧ k (.bool r)
  | .geq => ∃ r, decide (x ≥ y) = r ∧ k (.bool r)
  | .quo => y ≠ 0 ∧ ∃ z, a.wrap (x.tdiv y) = z ∧ k (.int a z)
  | .rem => y ≠ 0 ∧ ∃ z, x.tmod y = z ∧ k (.int a z)
  | .and => ∃ z, bits .and a x y = z ∧ k (.int a z)
  | .or => ∃ z, bits .or a x y = z ∧ k (.int a z)
  | .xor => ∃ z, bits .xor a x y = z ∧ k (.int a z)
  | .andNot => ∃ z, bits .andNot a x y = z ∧ k (.int a z)
  | op => intk op a x y k
theorem beq_dec {α : Type} [BEq α] [LawfulBEq α] [DecidableEq α] (x y : α) : (x == y) = decide (x = y) := by
  by_cases h : x = y
  · subst h; simp
  · rw [decide_eq_false h]; simpa using h
theorem bne_dec {α : Type} [BEq α] [LawfulBEq α] [DecidableEq α] (x y : α) : (!(x == y)) = decide (x ≠ y) := by
  by_cases h : x = y
  · subst h; simp
  · rw [decide_eq_true h]; simpa using h
theorem intk2_elim {op : BinOp} {a : IntKind} {x y : Int} {k : Value → Prop} (H : intk2 op a x y k) : intk op a x y k := by
  unfold intk2 at H
  split at H
  case h_16 => exact H
  case h_10 => obtain ⟨h0, z, rfl, H⟩ := H; exact ⟨h0, H⟩
  case h_11 => obtain ⟨h0, z, rfl, H⟩ := H; exact ⟨h0, H⟩
  all_goals obtain ⟨z, rfl, H⟩ := H
  case h_4 => exact (show k (.bool (x == y)) from (by rw [beq_dec]; exact H))
  case h_5 => exact (show k (.bool (x != y)) from (by rw [show (x != y) = decide (x ≠ y) from bne_dec x y]; exact H))
  all_goals exact H
def binq2 (P : Program) (op : BinOp) (t : TypeId) (xo yo : Operand) (x y : Value) (k : Value → Prop) : Prop :=
  match x, y with
  | .int a x, .int b y => match op with
    | .shl => 0 ≤ y ∧ ∃ z, a.wrap (x * 2 ^ min y.toNat a.bits) = z ∧ k (.int a z)
    | .shr => 0 ≤ y ∧ ∃ z, x / 2 ^ min y.toNat a.bits = z ∧ k (.int a z)
    | op => if a = b then intk2 op a x y k else False
  | .string x, .string y => match op with
    | .eql => ∃ r, decide (x.toList = y.toList) = r ∧ k (.bool r)
    | .neq => ∃ r, decide (x.toList ≠ y.toList) = r ∧ k (.bool r)
    | op => binq P op t xo yo (.string x) (.string y) k
  | x, y => binq P op t xo yo x y k
theorem binq2_elim {P : Program} {op : BinOp} {t : TypeId} {xo yo : Operand} {x y : Value} {k : Value → Prop} (H : binq2 P op t xo yo x y k) : binq P op t xo yo x y k := by
  unfold binq2 at H
  split at H
  · split at H
    · obtain ⟨h0, z, rfl, H⟩ := H; exact ⟨h0, H⟩
    · obtain ⟨h0, z, rfl, H⟩ := H; exact ⟨h0, H⟩
    · rename_i h1 h2
      split at H
      · rename_i e
        have := intk2_elim H
        subst e
        unfold binq
        cases op <;> first
          | exact absurd rfl h1
          | exact absurd rfl h2
          | (simp only [if_true]; exact this)
      · exact H.elim
  · rename_i x y
    split at H
    · obtain ⟨r, rfl, H⟩ := H
      exact (show k (.bool (x.toList == y.toList)) from (by rw [beq_dec]; exact H))
    · obtain ⟨r, rfl, H⟩ := H
      exact (show k (.bool !(x.toList == y.toList)) from (by rw [bne_dec]; exact H))
    · exact H
  · exact H
def opq2 (P : Program) (o : Oper) (fr : Fr) (h : Heap) (k : Value → Prop) : Prop :=
  match o.op with
  | .binOp op t x y _ => evk fr x fun a => evk fr y fun b => binq2 P op t x y a b k
  | .slice t x lo hi none => evk fr x fun v => match P.underlying t, v with
    | some .string, .string s => bnd fr lo 0 fun l => bnd fr hi s.size fun h => (0 ≤ l ∧ l ≤ h ∧ h ≤ s.size) ∧ ∃ u, s.extract l.toNat h.toNat = u ∧ k (.string u)
    | _, _ => opq P o fr h k
  | .call c => match c.callee with
    | .builtin .len => match c.args[0]?, c.argTypes[0]? with
      | some x, some T => evk fr x fun v => match P.underlying T, v with
        | some .string, .string s => ∃ n : Nat, s.size = n ∧ k (.int .i64 n)
        | _, _ => opq P o fr h k
      | _, _ => opq P o fr h k
    | _ => opq P o fr h k
  | .unOp op _ x => evk fr x fun v => match op, v with
    | .neg, .int kd n => ∃ z, kd.wrap (0 - n) = z ∧ k (.int kd z)
    | .xor, .int kd n => ∃ z, bits .xor kd (if kd.signed then -1 else kd.max) n = z ∧ k (.int kd z)
    | _, _ => opq P o fr h k
  | .convert s t x => evk fr x fun v => match P.underlying s, P.underlying t, v with
    | some _, some (.int kd), .int _ n => ∃ z, kd.wrap n = z ∧ k (.int kd z)
    | _, _, _ => opq P o fr h k
  | _ => opq P o fr h k
theorem bnd_mono {fr : Fr} {x : Option Operand} {d : Nat} {k k' : Int → Prop} (H : bnd fr x d k) (hk : ∀ i, k i → k' i) : bnd fr x d k' := by
  unfold bnd at *
  split at H
  · exact hk _ H
  · unfold evk at *
    split at H
    · rename_i v hv
      split at H
      · exact hk _ H
      · exact H.elim
    · exact H.elim
theorem opq2_elim {P : Program} {o : Oper} {fr : Fr} {h : Heap} {k : Value → Prop} (H : opq2 P o fr h k) : opq P o fr h k := by
  unfold opq2 at H
  split at H
  · rename_i op t x y yt ho
    obtain ⟨u, hu, H⟩ := evk_elim H
    obtain ⟨v, hv, H⟩ := evk_elim H
    unfold opq evk
    simp only [ho, hu, hv]
    exact binq2_elim H
  · rename_i t x lo hi ho
    obtain ⟨v, hv, H⟩ := evk_elim H
    split at H
    · rename_i s ht
      unfold opq evk
      simp only [ho, hv, ht]
      refine bnd_mono H fun l H => bnd_mono H fun j H => ?_
      obtain ⟨h1, u, rfl, H⟩ := H
      exact ⟨h1, H⟩
    · exact H
  · rename_i c ho
    split at H
    · rename_i hc
      split at H
      · rename_i x T hx hT
        obtain ⟨v, hv, H⟩ := evk_elim H
        split at H
        · rename_i s ht
          obtain ⟨n, rfl, H⟩ := H
          unfold opq lenq evk
          simp only [ho, hc, hx, hT, hv, ht]
          exact H
        · exact H
      · exact H
    · exact H
  · rename_i op t x ho
    obtain ⟨v, hv, H⟩ := evk_elim H
    split at H
    · obtain ⟨z, rfl, H⟩ := H
      unfold opq evk
      simp only [ho, hv]
      exact H
    · obtain ⟨z, rfl, H⟩ := H
      unfold opq evk
      simp only [ho, hv]
      exact H
    · exact H
  · rename_i src dst x ho
    obtain ⟨v, hv, H⟩ := evk_elim H
    split at H
    · rename_i hs ht
      obtain ⟨z, rfl, H⟩ := H
      unfold opq evk
      simp only [ho, hv, hs, ht]
      exact H
    · exact H
  · exact H
def opx2 (P : Program) (o : Oper) (fr : Fr) (h : Heap) (k : Value → Heap → Prop) : Prop :=
  match quietOp P o with
  | true => opq2 P o fr h (fun v => k v h)
  | false => opi P o fr h k
theorem opx2_elim {P : Program} {o : Oper} {fr : Fr} {h : Heap} {k : Value → Heap → Prop} (H : opx2 P o fr h k) : opx P o fr h k := by
  unfold opx2 at H
  unfold opx
  split at H
  · rename_i hq; simp only [hq]; exact opq2_elim H
  · rename_i hq; simp only [hq]; exact H
def evG (P : Program) (all : List Oper) : List Oper → Fr → Heap → (Fr → Heap → Prop) → Prop
  | [], fr, h, K => K fr h
  | o :: r, fr, h, K => gk all o fr (opx2 P o fr h fun v h' => evG P all r (put fr o.dst v) h' K) (evG P all r (put fr o.dst undef) h K)
theorem evG_sound {P : Program} {n : Nat} {all : List Oper} {Q : Exit → Act → World → Prop} {K : Fr → Heap → Prop} : ∀ (l : List Oper), (∀ o ∈ l, dok n o.dst) → ∀ (fr : Fr) (h : Heap) (a : Act) (w : World),
    evG P all l fr h K → Hold ds n fr a → w.heap = h → (∀ fr' a' w', Hold ds n fr' a' → SameEnv w w' → K fr' w'.heap → Q .normal a' w') → wpList P all.toArray Q l a w
  | [], _, fr, h, a, w, H, hF, hw, hQ => hQ fr a w hF (SameEnv.refl w) (hw ▸ H)
  | o :: r, hd, fr, h, a, w, H, hF, hw, hQ => by
    unfold evG at H
    unfold wpList
    rcases gk_elim H hF with ⟨hg, H⟩ | ⟨hg, H⟩
    · rw [if_pos hg]
      refine .inl (wp_of_comes (opx_sound hF (opx2_elim H) hw) fun v w' hs hk => ?_)
      exact evG_sound r (fun o ho => hd o (by simp [ho])) _ _ _ w' hk (hF.put _ _ (hd o (by simp))) rfl (fun fr' a' w'' h1 h2 h3 => hQ fr' a' w'' h1 (hs.trans h2) h3)
    · rw [if_neg (by simp [hg])]
      exact evG_sound r (fun o ho => hd o (by simp [ho])) _ _ _ w H (hF.put _ _ (hd o (by simp))) hw hQ
def opqc2 (P : Program) (o : Oper) (fr : Fr) (h : Heap) (k : Value → Prop) : Prop :=
  match quietOp P o with
  | true => opq2 P o fr h k
  | false => opqc P o fr h k
theorem opqc2_elim {P : Program} {o : Oper} {fr : Fr} {h : Heap} {k : Value → Prop} (H : opqc2 P o fr h k) : opqc P o fr h k := by
  unfold opqc2 at H
  split at H
  · rename_i hq; unfold opqc; simp only [hq]; exact opq2_elim H
  · exact H
/-- a drawn head of operations that only read -/
def evHG (P : Program) (all : List Oper) (h0 : Heap) (L : Fr → Heap → Prop) : List Nat → Fr → Heap → Prop
  | [], fr, h => ∀ h', ExtH h h' → L fr h'
  | i :: p, fr, h => match all[i]? with
    | none => False
    | some o => gk all o fr (opqc2 P o fr h0 fun v => evHG P all h0 L p (put fr o.dst v) h) (evHG P all h0 L p (put fr o.dst undef) h)
theorem evHG_sound {P : Program} {n : Nat} {all : List Oper} {h0 : Heap} {L : Fr → Heap → Prop} {L' : Act → World → Prop} (hd : ∀ o ∈ all, dok n o.dst) (w0 : World) (hL : ∀ fr a w, Hold ds n fr a → SameEnv w0 w → L fr w.heap → L' a w) :
    ∀ (p : List Nat) (fr : Fr) (h : Heap) (a : Act) (w : World), evHG P all h0 L p fr h → Hold ds n fr a → ExtH h w.heap → ExtH h0 w.heap → SameEnv w0 w → wpH P (fun b => b < h0.size) all.toArray (fun _ => false) L' p a w
  | [], fr, h, a, w, H, hF, hw, _, hs => hL fr a w hF hs (H _ hw)
  | i :: p, fr, h, a, w, H, hF, hw, hw0, hs => by
    unfold evHG at H
    unfold wpH
    cases ho : all[i]? with
    | none => simp [ho] at H
    | some o =>
      simp only [ho] at H
      have hdo : dok n o.dst := hd o (List.mem_of_getElem? ho)
      have ho' : all.toArray[i]? = some o := by simpa using ho
      simp only [Bool.false_eq_true, if_false, ho']
      rcases gk_elim H hF with ⟨hg, H⟩ | ⟨hg, H⟩
      · obtain ⟨v, hk, hv⟩ := opqc_sound hF (opqc2_elim H) hw0
        exact ⟨v, .inl ⟨hg, hv⟩, fun w2 h2 => evHG_sound hd w0 hL p _ _ _ w2 hk (hF.put _ _ hdo) (hw.trans h2.heap) (hw0.trans h2.heap) (hs.trans h2.env)⟩
      · exact ⟨undef, .inr ⟨hg, rfl⟩, fun w2 h2 => evHG_sound hd w0 hL p _ _ _ w2 H (hF.put _ _ hdo) (hw.trans h2.heap) (hw0.trans h2.heap) (hs.trans h2.env)⟩
/-- a drawn head, some of whose operations make memory -/
def evH2 (P : Program) (all : List Oper) (imp : Nat → Bool) (h0 : Heap) (L : Fr → Heap → Prop) : List Nat → Fr → Heap → Prop
  | [], fr, h => ∀ h', ExtH h h' → L fr h'
  | i :: p, fr, h => match all[i]? with
    | none => False
    | some o => gk all o fr
        (match imp i with
          | true => ∀ h1, ExtH h h1 → opx2 P o fr h1 fun v h2 => ExtU h0.size h1 h2 ∧ ∀ h3, ExtH h2 h3 → evH2 P all imp h0 L p (put fr o.dst v) h3
          | false => opqc2 P o fr h0 fun v => evH2 P all imp h0 L p (put fr o.dst v) h)
        (evH2 P all imp h0 L p (put fr o.dst undef) h)
theorem evH2_sound {P : Program} {n : Nat} {all : List Oper} {imp : Nat → Bool} {h0 : Heap} {L : Fr → Heap → Prop} {L' : Act → World → Prop} (hd : ∀ o ∈ all, dok n o.dst) (w0 : World) (hL : ∀ fr a w, Hold ds n fr a → SameEnv w0 w → L fr w.heap → L' a w) :
    ∀ (p : List Nat) (fr : Fr) (h : Heap) (a : Act) (w : World), evH2 P all imp h0 L p fr h → Hold ds n fr a → ExtH h w.heap → ExtH h0 w.heap → SameEnv w0 w → wpH P (fun b => b < h0.size) all.toArray imp L' p a w
  | [], fr, h, a, w, H, hF, hw, _, hs => hL fr a w hF hs (H _ hw)
  | i :: p, fr, h, a, w, H, hF, hw, hw0, hs => by
    unfold evH2 at H
    unfold wpH
    cases ho : all[i]? with
    | none => simp [ho] at H
    | some o =>
      simp only [ho] at H
      have hdo : dok n o.dst := hd o (List.mem_of_getElem? ho)
      have ho' : all.toArray[i]? = some o := by simpa using ho
      cases him : imp i with
      | true =>
        simp only [him] at H
        simp only [if_true]
        unfold opX
        simp only [ho']
        rcases gk_elim H hF with ⟨hg, H⟩ | ⟨hg, H⟩
        · rw [if_pos hg]
          refine extX_of_comes (k := fun v h3 => ExtH h0 h3 ∧ evH2 P all imp h0 L p (put fr o.dst v) h3) ?_ fun v w' hs' hk => ?_
          · refine (opx_sound hF (opx2_elim (H w.heap hw)) rfl).mono fun v h2 hk => ⟨hk.1.p, fun h3 h23 => ⟨?_, hk.2 h3 h23⟩⟩
            have h02 : ExtH h0 h2 := ⟨Nat.le_trans hw0.size hk.1.size, fun b hb => (hk.1.block b hb (Nat.lt_of_lt_of_le hb hw0.size)).trans (hw0.block b hb)⟩
            exact h02.trans h23
          · exact evH2_sound hd w0 hL p _ _ _ w' hk.2 (hF.put _ _ hdo) (ExtH.refl _) hk.1 (hs.trans hs')
        · rw [if_neg (by simp [hg])]
          exact fun w3 h3 => evH2_sound hd w0 hL p _ _ _ w3 H (hF.put _ _ hdo) (hw.trans h3.heap) (hw0.trans h3.heap) (hs.trans h3.env)
      | false =>
        simp only [him] at H
        simp only [Bool.false_eq_true, if_false, ho']
        rcases gk_elim H hF with ⟨hg, H⟩ | ⟨hg, H⟩
        · obtain ⟨v, hk, hv⟩ := opqc_sound hF (opqc2_elim H) hw0
          exact ⟨v, .inl ⟨hg, hv⟩, fun w2 h2 => evH2_sound hd w0 hL p _ _ _ w2 hk (hF.put _ _ hdo) (hw.trans h2.heap) (hw0.trans h2.heap) (hs.trans h2.env)⟩
        · exact ⟨undef, .inr ⟨hg, rfl⟩, fun w2 h2 => evH2_sound hd w0 hL p _ _ _ w2 H (hF.put _ _ hdo) (hw.trans h2.heap) (hw0.trans h2.heap) (hs.trans h2.env)⟩
section
variable {P : Program} {n : Nat} {Q : Exit → Fr → Heap → Prop} {fr : Fr} {h : Heap}
theorem cw_dgi {id : Nat} {ops : Array Oper} (hm : P.follows .mixedOrders = true) (m : Nat) (imp : Nat → Bool) (p : List Nat) (hB : regB ops m imp p = true) (hd : dstsB n ops.toList = true)
    (H : evH2 P ops.toList imp h (fun fr h => evG P ops.toList (ops.toList.drop m) fr h fun fr h => Q .normal fr h) p fr h) : CwD ds P n (.region id ops true) Q fr h :=
  ⟨fun w0 a w hF hs hw => by
    refine wp_region_head (fun b => b < h.size) m imp p hm hB ?_
    have := evH2_sound (n := n) (P := P) (all := ops.toList) (imp := imp) (h0 := h) (fun o ho => dok_of hd ho) w0 (L' := fun a' w' => wpList P ops (Post ds w0 n Q) (ops.toList.drop m) a' w')
      (fun fr1 a' w' hF' hs' hk => by
        have := evG_sound (n := n) (Q := Post ds w0 n Q) (ops.toList.drop m) (fun o ho => dok_of hd (List.mem_of_mem_drop ho)) fr1 w'.heap a' w' hk hF' rfl (fun fr'' a'' w'' hF'' hs'' hk' => ⟨fr'', hF'', hs'.trans hs'', hk'⟩)
        simpa using this)
      p fr h a { w with drawn := w.drawn + 1 } H hF (hw ▸ ExtH.refl _) (hw ▸ ExtH.refl _) ⟨hs.os, hs.tape, hs.output⟩
    simpa using this⟩
theorem cw_go {id : Nat} {ops : Array Oper} (hd : dstsB n ops.toList = true) (H : evG P ops.toList ops.toList fr h fun fr h => Q .normal fr h) : CwD ds P n (.region id ops false) Q fr h :=
  ⟨fun w0 a w hF hs hw => wp_region_list (by
    have := evG_sound (n := n) (Q := Post ds w0 n Q) ops.toList (fun o ho => dok_of hd ho) fr h a w H hF hw (fun fr' a' w' hF' hs' hk => ⟨fr', hF', hs.trans hs', hk⟩)
    simpa using this)⟩
theorem cw_dgo {id : Nat} {ops : Array Oper} (hm : P.follows .mixedOrders = true) (m : Nat) (p : List Nat) (hB : regB ops m (fun _ => false) p = true) (hd : dstsB n ops.toList = true)
    (H : evHG P ops.toList h (fun fr h => evG P ops.toList (ops.toList.drop m) fr h fun fr h => Q .normal fr h) p fr h) : CwD ds P n (.region id ops true) Q fr h :=
  ⟨fun w0 a w hF hs hw => by
    refine wp_region_head (fun b => b < h.size) m (fun _ => false) p hm hB ?_
    have := evHG_sound (n := n) (P := P) (all := ops.toList) (h0 := h) (fun o ho => dok_of hd ho) w0 (L' := fun a' w' => wpList P ops (Post ds w0 n Q) (ops.toList.drop m) a' w')
      (fun fr1 a' w' hF' hs' hk => by
        have := evG_sound (n := n) (Q := Post ds w0 n Q) (ops.toList.drop m) (fun o ho => dok_of hd (List.mem_of_mem_drop ho)) fr1 w'.heap a' w' hk hF' rfl (fun fr'' a'' w'' hF'' hs'' hk' => ⟨fr'', hF'', hs'.trans hs'', hk'⟩)
        simpa using this)
      p fr h a { w with drawn := w.drawn + 1 } H hF (hw ▸ ExtH.refl _) (hw ▸ ExtH.refl _) ⟨hs.os, hs.tape, hs.output⟩
    simpa using this⟩
end
/-! ### what a step is told by -/
theorem say_t {p : Prop} [Decidable p] {k : Bool → Prop} (h : p) (H : k true) : ∃ r, decide p = r ∧ k r := ⟨true, decide_eq_true h, H⟩
theorem say_f {p : Prop} [Decidable p] {k : Bool → Prop} (h : ¬ p) (H : k false) : ∃ r, decide p = r ∧ k r := ⟨false, decide_eq_false h, H⟩
theorem say_d {p : Prop} [Decidable p] {k : Bool → Prop} (H1 : p → k true) (H2 : ¬ p → k false) : ∃ r, decide p = r ∧ k r := by
  by_cases h : p
  · exact say_t h (H1 h)
  · exact say_f h (H2 h)
theorem say_i {x : Int} {k : Int → Prop} (h : -9223372036854775808 ≤ x ∧ x < 9223372036854775808) (H : k x) : ∃ z, IntKind.i64.wrap x = z ∧ k z := ⟨x, by rw [IntKind.wrap_i64]; omega, H⟩
theorem say_v {α : Type} {v : α} {k : α → Prop} (H : k v) : ∃ z, v = z ∧ k z := ⟨v, rfl, H⟩
theorem say_w {x y : Int} {k : Int → Prop} (h : x = y) (H : k y) : ∃ z, x = z ∧ k z := ⟨y, h, H⟩
theorem say_u8 {x : Int} {k : Int → Prop} (h : 0 ≤ x ∧ x < 256) (H : k x) : ∃ z, IntKind.u8.wrap x = z ∧ k z := ⟨x, by rw [IntKind.wrap_u8]; omega, H⟩
theorem say_u32 {x : Int} {k : Int → Prop} (h : 0 ≤ x ∧ x < 4294967296) (H : k x) : ∃ z, IntKind.u32.wrap x = z ∧ k z := ⟨x, by rw [IntKind.wrap_u32]; omega, H⟩
theorem say_u64 {x : Int} {k : Int → Prop} (h : 0 ≤ x ∧ x < 18446744073709551616) (H : k x) : ∃ z, IntKind.u64.wrap x = z ∧ k z := ⟨x, by rw [IntKind.wrap_u64]; omega, H⟩
theorem bs_extract (s : List UInt8) (a b : Nat) : (bs s).extract a b = bs ((s.take b).drop a) := by
  apply ByteArray.ext
  simp only [bs, ByteArray.data_extract, List.extract_toArray]
  rw [List.extract_eq_take_drop]
  congr 1
  rw [← List.drop_take]
theorem say_cut {s : List UInt8} {l h : Int} {k : ByteArray → Prop} (h1 : 0 ≤ l) (h2 : l ≤ h) (h3 : h ≤ s.length) (H : k (bs ((s.take h.toNat).drop l.toNat))) :
    (0 ≤ l ∧ l ≤ h ∧ h ≤ ((bs s).size : Int)) ∧ ∃ u, (bs s).extract l.toNat h.toNat = u ∧ k u := ⟨⟨h1, h2, h3⟩, _, bs_extract _ _ _, H⟩
theorem say_to {s : List UInt8} {h : Int} {k : ByteArray → Prop} (h2 : 0 ≤ h) (h3 : h ≤ s.length) (H : k (bs (s.take h.toNat))) :
    ((0 : Int) ≤ 0 ∧ 0 ≤ h ∧ h ≤ ((bs s).size : Int)) ∧ ∃ u, (bs s).extract (0 : Int).toNat h.toNat = u ∧ k u := ⟨⟨Int.le_refl _, h2, h3⟩, _, bs_extract _ _ _, H⟩
theorem say_from {s : List UInt8} {l : Int} {k : ByteArray → Prop} (h1 : 0 ≤ l) (h2 : l ≤ s.length) (H : k (bs (s.drop l.toNat))) :
    (0 ≤ l ∧ l ≤ ((bs s).size : Int) ∧ ((bs s).size : Int) ≤ ((bs s).size : Int)) ∧ ∃ u, (bs s).extract l.toNat ((bs s).size : Int).toNat = u ∧ k u :=
  ⟨⟨h1, h2, Int.le_refl _⟩, _, (by rw [bs_extract, Int.toNat_natCast, bs_size, List.take_length]), H⟩
theorem say_at {s : List UInt8} {n : Int} {k : UInt8 → Prop} (h : 0 ≤ n ∧ n < s.length) (H : k (s.getD n.toNat 0)) : ∃ b, (0 ≤ n ∧ (bs s)[n.toNat]? = some b) ∧ k b :=
  ⟨_, ⟨h.1, bs_get s _ (by omega)⟩, H⟩
theorem say_len {s : List UInt8} {k : Nat → Prop} (H : k s.length) : ∃ n : Nat, (bs s).size = n ∧ k n := ⟨_, bs_size s, H⟩
theorem say_seq {a b : List UInt8} {k : Bool → Prop} (H1 : a = b → k true) (H2 : a ≠ b → k false) : ∃ r, decide ((bs a).toList = (bs b).toList) = r ∧ k r := by
  rw [bs_toList, bs_toList]; exact say_d H1 H2
theorem say_sne {a b : List UInt8} {k : Bool → Prop} (H1 : a ≠ b → k true) (H2 : a = b → k false) : ∃ r, decide ((bs a).toList ≠ (bs b).toList) = r ∧ k r := by
  rw [bs_toList, bs_toList]; exact say_d H1 (fun h => H2 (Decidable.not_not.1 h))
theorem rd_up {h h' : Heap} {a : Addr} {v : Value} (e : ExtH h h') (r : rd h a = some v) : rd h' a = some v := (e.chg (S := fun _ => False)).rd r (fun e => e)
end Go.Proofs.YtdielfpgekenkaaGreatDoor.Vm
namespace Go.Proofs.YtdielfpgekenkaaGreatDoor.Vm
open Go
theorem lits_run {P : Program} {t : TypeId} {m D D' : Nat} (hk : P.keyTypeAt m t = true) (hm : m ≤ 10000) {x y : Value} {lx ly : List Lit} (fx : x.formed P t = true) (fy : y.formed P t = true)
    (hx : P.keyLits D t x.cells.toList = some lx) (hy : P.keyLits D' t y.cells.toList = some ly) {b : Bool} (hb : b = true ↔ lx = ly) (w : World) : (Op.equalIn 10000 t x y).run P w = .ok b w := by
  obtain ⟨r, h1, h2⟩ := run_equalIn_deep (P := P) (10000 - m) m t hk w D D' x y lx ly fx fy hx hy
  rw [show 10000 - m + m = 10000 by omega] at h1
  have : r = b := by
    cases r <;> cases b <;> simp_all
  rw [h1, this]
/-- a == b -/
theorem eql_lits {P : Program} {t : TypeId} {m D D' : Nat} (hk : P.keyTypeAt m t = true) (hm : m ≤ 10000) (hg : P.eqGuardType P.depth t = false) {xs ys : Array Value} {lx ly : List Lit} (fx : (Value.agg xs).formed P t = true) (fy : (Value.agg ys).formed P t = true)
    (hx : P.keyLits D t xs.toList = some lx) (hy : P.keyLits D' t ys.toList = some ly) {b : Bool} (hb : b = true ↔ lx = ly) (xo yo : Operand) (w : World) :
    (do eqGuard .eql t xo yo (.agg xs) (.agg ys); binOp .eql t (.agg xs) (.agg ys) : Sem Value).run P w = .ok (.bool b) w := by
  rw [Sem.run_bind, run_eqGuard_agg _ _ _ _ _ _ _ hg, Result.andThen_ok, run_eql_struct, lits_run hk hm fx fy hx hy hb, Result.andThen_ok]
/-- a != b -/
theorem neq_lits {P : Program} {t : TypeId} {m D D' : Nat} (hk : P.keyTypeAt m t = true) (hm : m ≤ 10000) (hg : P.eqGuardType P.depth t = false) {xs ys : Array Value} {lx ly : List Lit} (fx : (Value.agg xs).formed P t = true) (fy : (Value.agg ys).formed P t = true)
    (hx : P.keyLits D t xs.toList = some lx) (hy : P.keyLits D' t ys.toList = some ly) {b : Bool} (hb : b = true ↔ lx = ly) (xo yo : Operand) (w : World) :
    (do eqGuard .neq t xo yo (.agg xs) (.agg ys); binOp .neq t (.agg xs) (.agg ys) : Sem Value).run P w = .ok (.bool !b) w := by
  rw [Sem.run_bind, run_eqGuard_agg _ _ _ _ _ _ _ hg, Result.andThen_ok, run_neq_struct, lits_run hk hm fx fy hx hy hb, Result.andThen_ok]
end Go.Proofs.YtdielfpgekenkaaGreatDoor.Vm
namespace Go.Proofs.YtdielfpgekenkaaGreatDoor.Vm
open Go
section
variable {P : Program} {all : List Oper} {o : Oper} {fr : Fr} {h : Heap}
theorem head_g {imp : Nat → Bool} {h0 : Heap} {L : Fr → Heap → Prop} {i : Nat} {p : List Nat} {v : Value} {j d : Nat} {b : Bool} (ho : all[i]? = some o) (hg : o.guard = some (j, b)) (hd : (all[j]?).bind (·.dst) = some d)
    (hl : lk fr d = some (.bool b)) (hi : imp i = false) (hq : quietOp P o = true)
    (hv : ∀ k : Value → Prop, k v → opq P o fr h0 k) (H : evH P all imp h0 L p (put fr o.dst v) h) : evH P all imp h0 L (i :: p) fr h := by
  unfold evH gk
  simp only [ho, hg, hi, hd, hl]
  have : opqc P o fr h0 (fun v => evH P all imp h0 L p (put fr o.dst v) h) := by
    unfold opqc
    rw [hq]
    exact hv _ H
  cases b <;> exact this
theorem head_skip {imp : Nat → Bool} {h0 : Heap} {L : Fr → Heap → Prop} {i : Nat} {p : List Nat} {j d : Nat} {b : Bool} (ho : all[i]? = some o) (hg : o.guard = some (j, b)) (hd : (all[j]?).bind (·.dst) = some d)
    (hl : lk fr d = some (.bool !b)) (H : evH P all imp h0 L p (put fr o.dst undef) h) : evH P all imp h0 L (i :: p) fr h := by
  unfold evH gk
  simp only [ho, hg, hd, hl]
  cases b <;> exact H
end
theorem Fx.q {P : Program} {f : FuncId} {args : Array Value} {h : Heap} {v : Value} (H : ∀ h1, ExtH h h1 → Fx P f args h1 fun u h' => u = v ∧ h' = h1) : FxQ P f args h v :=
  fun h1 x => (H h1 x).mono fun _ _ ⟨e, e'⟩ => ⟨e, e' ▸ ExtH.refl _⟩
end Go.Proofs.YtdielfpgekenkaaGreatDoor.Vm
namespace Go.Proofs.YtdielfpgekenkaaGreatDoor.Vm
open Go
section
variable {P : Program} {all : List Oper} {o : Oper} {fr : Fr} {h : Heap}
theorem ops_skipu {r : List Oper} {K : Fr → Heap → Prop} {j d : Nat} {b : Bool} {vs : Array Value} (hg : o.guard = some (j, b)) (hd : (all[j]?).bind (·.dst) = some d) (hl : lk fr d = some (.tuple vs)) (H : evOps P all r (put fr o.dst undef) h K) : evOps P all (o :: r) fr h K := by
  unfold evOps gk
  simp only [hg, hd, hl]
  exact H
theorem head_skipu {imp : Nat → Bool} {h0 : Heap} {L : Fr → Heap → Prop} {i : Nat} {p : List Nat} {j d : Nat} {b : Bool} {vs : Array Value} (ho : all[i]? = some o) (hg : o.guard = some (j, b)) (hd : (all[j]?).bind (·.dst) = some d)
    (hl : lk fr d = some (.tuple vs)) (H : evH P all imp h0 L p (put fr o.dst undef) h) : evH P all imp h0 L (i :: p) fr h := by
  unfold evH gk
  simp only [ho, hg, hd, hl]
  exact H
end
end Go.Proofs.YtdielfpgekenkaaGreatDoor.Vm
namespace Go.Proofs.YtdielfpgekenkaaGreatDoor
open Go Vm
set_option maxRecDepth 100000
set_option linter.unusedVariables false
set_option linter.unusedSimpArgs false
/-- the cells of a plain compiler -/
def cz : List Value := [.pointer none, .pointer none, .pointer none, .pointer none, .int .i64 0, .int .i64 0, .slice none 0 0]
def Nob (h : Heap) (v : Value) : Prop := v = .pointer none ∨ ∃ p, v = .pointer (some ⟨p, 0, none⟩) ∧ Blk h p cz 38
theorem Nob.more {h h' : Heap} {v : Value} (N : Nob h v) (e : ExtH h h') : Nob h' v := by
  rcases N with rfl | ⟨p, rfl, y⟩
  · exact .inl rfl
  · exact .inr ⟨p, rfl, e.blk y⟩
theorem nready_fn {h : Heap} {v : Value} (N : Nob h v) : Fx Tryz.prog 14 #[v] h fun u h' => u = .bool false ∧ h' = h := by
  rcases N with rfl | ⟨p, rfl, y⟩
  · refine fn_of 12 Tryz.func14 rfl (by kernel_rfl) rfl (by simp) ?_
    refine cw_seq (cw_go rfl ?_)
    conv => whnf
    refine cw_seq (cw_go rfl ?_)
    conv => whnf
    refine ⟨.bool false, fun w => by kernel_rfl, ?_⟩
    conv => whnf
    conv => whnf
    exact cw_ret ⟨rfl, rfl⟩
  · refine fn_of 12 Tryz.func14 rfl (by kernel_rfl) rfl (by simp) ?_
    refine cw_seq (cw_go rfl ?_)
    conv => whnf
    refine cw_seq (cw_go rfl ?_)
    conv => whnf
    refine ⟨.bool true, fun w => by kernel_rfl, ?_⟩
    conv => whnf
    conv => whnf
    refine ⟨_, y.rd (o := 4) rfl, ?_⟩
    conv => whnf
    refine say_f (by omega) ?_
    conv => whnf
    exact cw_ret ⟨rfl, rfl⟩
theorem nforget_fn {h : Heap} {v : Value} (N : Nob h v) : Fx Tryz.prog 4 #[v] h fun u h' => h' = h := by
  refine fn_of 12 Tryz.func4 rfl (by kernel_rfl) rfl (by simp) ?_
  refine cw_seq (cw_go rfl ?_)
  conv => whnf
  refine ⟨_, rfl, _, nready_fn N, ?_⟩
  rintro _ h1 ⟨rfl, e⟩
  replace e := e.symm
  subst e
  conv => whnf
  refine cw_false rfl (cw_skip ?_)
  conv => whnf
theorem nfind_fn {h : Heap} {v : Value} (N : Nob h v) (id : Int) : Fx Tryz.prog 16 #[v, .int .u64 id] h fun u h' => u = .tuple #[.pointer none, .int .i64 2] ∧ h' = h := by
  refine fn_of 22 Tryz.func16 rfl (by kernel_rfl) rfl (by simp) ?_
  refine cw_seq (cw_go rfl ?_)
  conv => whnf
  refine cw_seq (cw_seq (cw_go rfl ?_))
  conv => whnf
  refine ⟨_, rfl, _, nready_fn N, ?_⟩
  rintro _ h1 ⟨rfl, e⟩
  replace e := e.symm
  subst e
  conv => whnf
  refine cw_true rfl ?_
  refine cw_seq (cw_go rfl ?_)
  conv => whnf
  exact cw_ret ⟨rfl, rfl⟩
theorem nstep_fn {h : Heap} {v : Value} (N : Nob h v) (id : Int) : Fx Tryz.prog 5 #[v, .int .u64 id] h fun u h' => u = .tuple #[.string (bs []), .bool false, .int .i64 2] ∧ h' = h := by
  refine fn_of 43 Tryz.func5 rfl (by kernel_rfl) rfl (by simp) ?_
  refine cw_seq (cw_go rfl ?_)
  conv => whnf
  refine cw_seq (cw_go rfl ?_)
  conv => whnf
  refine ⟨_, rfl, _, nfind_fn N id, ?_⟩
  rintro _ h1 ⟨rfl, e⟩
  replace e := e.symm
  subst e
  conv => whnf
  refine cw_seq (cw_seq (cw_go rfl ?_))
  conv => whnf
  refine say_t (by omega) ?_
  conv => whnf
  refine cw_true rfl ?_
  refine cw_seq (cw_go rfl ?_)
  conv => whnf
  exact cw_ret ⟨rfl, rfl⟩
theorem nsteps_fn {h : Heap} {v : Value} (N : Nob h v) (id : Int) : Fx Tryz.prog 6 #[v, .int .u64 id] h fun u h' => u = .tuple #[.int .i64 0, .int .i64 2] ∧ h' = h := by
  refine fn_of 21 Tryz.func6 rfl (by kernel_rfl) rfl (by simp) ?_
  refine cw_seq (cw_go rfl ?_)
  conv => whnf
  refine cw_seq (cw_go rfl ?_)
  conv => whnf
  refine ⟨_, rfl, _, nfind_fn N id, ?_⟩
  rintro _ h1 ⟨rfl, e⟩
  replace e := e.symm
  subst e
  conv => whnf
  refine cw_seq (cw_seq (cw_go rfl ?_))
  conv => whnf
  refine say_t (by omega) ?_
  conv => whnf
  refine cw_true rfl ?_
  refine cw_seq (cw_go rfl ?_)
  conv => whnf
  exact cw_ret ⟨rfl, rfl⟩
theorem nbound_fn {h : Heap} {v : Value} (N : Nob h v) (id : Int) : Fx Tryz.prog 7 #[v, .int .u64 id] h fun u h' => u = .tuple #[.int .i64 0, .int .i64 2] ∧ h' = h := by
  refine fn_of 19 Tryz.func7 rfl (by kernel_rfl) rfl (by simp) ?_
  refine cw_seq (cw_go rfl ?_)
  conv => whnf
  refine cw_seq (cw_go rfl ?_)
  conv => whnf
  refine ⟨_, rfl, _, nsteps_fn N id, ?_⟩
  rintro _ h1 ⟨rfl, e⟩
  replace e := e.symm
  subst e
  conv => whnf
  refine cw_seq (cw_seq (cw_go rfl ?_))
  conv => whnf
  refine say_t (by omega) ?_
  conv => whnf
  refine cw_true rfl ?_
  refine cw_seq (cw_go rfl ?_)
  conv => whnf
  exact cw_ret ⟨rfl, rfl⟩
theorem nbegin_fn {h : Heap} {v : Value} (N : Nob h v) (id a b c : Int) (x y : Value) : Fx Tryz.prog 8 #[v, .int .u64 id, .agg #[.int .i64 a, .int .i64 b, .int .i64 c], x, y] h fun u h' => u = .int .i64 2 ∧ ExtH h h' := by
  refine fn_of 45 Tryz.func8 rfl (by kernel_rfl) rfl (by simp) ?_
  refine cw_seq (cw_go rfl ?_)
  conv => whnf
  intro h1 n1
  conv => whnf
  refine cw_seq (cw_block ?_)
  refine cw_seq (cw_go rfl ?_)
  conv => whnf
  refine ⟨_, rfl, _, nready_fn (N.more n1.ext), ?_⟩
  rintro _ h2 ⟨rfl, e⟩
  replace e := e.symm
  subst e
  conv => whnf
  refine cw_true rfl ?_
  refine cw_seq (cw_go rfl ?_)
  conv => whnf
  exact cw_ret ⟨rfl, n1.ext⟩
theorem ncancel_fn {h : Heap} {v : Value} (N : Nob h v) (id : Int) : Fx Tryz.prog 9 #[v, .int .u64 id] h fun u h' => u = .bool false ∧ h' = h := by
  refine fn_of 27 Tryz.func9 rfl (by kernel_rfl) rfl (by simp) ?_
  refine cw_seq (cw_go rfl ?_)
  conv => whnf
  refine cw_seq (cw_seq (cw_go rfl ?_))
  conv => whnf
  refine ⟨_, rfl, _, nready_fn N, ?_⟩
  rintro _ h1 ⟨rfl, e⟩
  replace e := e.symm
  subst e
  conv => whnf
  refine cw_true rfl ?_
  refine cw_seq (cw_go rfl ?_)
  conv => whnf
  exact cw_ret ⟨rfl, rfl⟩
theorem njobs_fn {h : Heap} {v : Value} (N : Nob h v) : Fx Tryz.prog 10 #[v] h fun u h' => u = .slice none 0 0 ∧ h' = h := by
  refine fn_of 28 Tryz.func10 rfl (by kernel_rfl) rfl (by simp) ?_
  refine cw_seq (cw_go rfl ?_)
  conv => whnf
  refine cw_seq (cw_seq (cw_go rfl ?_))
  conv => whnf
  refine ⟨_, rfl, _, nready_fn N, ?_⟩
  rintro _ h1 ⟨rfl, e⟩
  replace e := e.symm
  subst e
  conv => whnf
  refine cw_true rfl ?_
  refine cw_seq (cw_go rfl ?_)
  conv => whnf
  exact cw_ret ⟨rfl, rfl⟩
def mmz : Array Value := (List.replicate 12 (Value.int .i64 0)).toArray
theorem nmemos_fn {h : Heap} {v : Value} (N : Nob h v) : Fx Tryz.prog 11 #[v] h fun u h' => u = .agg mmz ∧ ExtH h h' := by
  refine fn_of 32 Tryz.func11 rfl (by kernel_rfl) rfl (by simp) ?_
  refine cw_seq (cw_go rfl ?_)
  conv => whnf
  intro h1 n1
  conv => whnf
  have y1 : Blk h1 h.size mmz.toList 51 := n1.blk
  have z1 := n1.size
  refine cw_seq (cw_seq (cw_go rfl ?_))
  conv => whnf
  refine ⟨_, rfl, _, nready_fn (N.more n1.ext), ?_⟩
  rintro _ h2 ⟨rfl, e⟩
  replace e := e.symm
  subst e
  conv => whnf
  refine cw_true rfl ?_
  refine cw_seq (cw_go rfl ?_)
  conv => whnf
  refine ⟨_, rfl, mmz, fun w => by kernel_rfl, ?_⟩
  conv => whnf
  conv => whnf
  refine ⟨_, _, y1, ⟨by decide, rfl, by decide⟩, ?_⟩
  intro h3 w3
  have z3 := w3.size
  refine cw_ret ?_
  conv => whnf
  refine ⟨mmz.toList, rfl, w3.new.all, ?_⟩
  exact ⟨rfl, ⟨by omega, fun b hb => by rw [w3.block b (by omega), n1.block b hb]⟩⟩
theorem nclone_fn {h : Heap} {v : Value} (N : Nob h v) : Fx Tryz.prog 12 #[v] h fun u h' => u = .pointer none ∧ h' = h := by
  refine fn_of 69 Tryz.func12 rfl (by kernel_rfl) rfl (by simp) ?_
  refine cw_seq (cw_go rfl ?_)
  conv => whnf
  refine cw_seq (cw_seq (cw_go rfl ?_))
  conv => whnf
  refine ⟨_, rfl, _, nready_fn N, ?_⟩
  rintro _ h1 ⟨rfl, e⟩
  replace e := e.symm
  subst e
  conv => whnf
  refine cw_true rfl ?_
  refine cw_seq (cw_go rfl ?_)
  conv => whnf
  exact cw_ret ⟨rfl, rfl⟩
end Go.Proofs.YtdielfpgekenkaaGreatDoor
namespace Go.Proofs.YtdielfpgekenkaaGreatDoor.Vm
open Go
theorem cw_cut2 {ds : List Deferred} {P : Program} {n : Nat} {Q : Exit → Fr → Heap → Prop} {fr : Fr} {h : Heap} {c d : Code} {S : Type} (F : S → Fr) (I : S → Heap → Prop)
    (H1 : CwD ds P n c (thenQ (fun fr' h' => ∃ s, Sub (F s) fr' ∧ I s h') Q) fr h) (H2 : ∀ s h', I s h' → CwD ds P n d Q (F s) h') : CwD ds P n (.seq c d) Q fr h :=
  cw_seq (cw_mono H1 fun e fr' h' hq => by
    cases e with
    | normal => obtain ⟨s, hs, hI⟩ := hq; exact cw_keep (F s) hs (H2 s h' hI)
    | _ => exact hq)
end Go.Proofs.YtdielfpgekenkaaGreatDoor.Vm
namespace Go.Proofs.YtdielfpgekenkaaGreatDoor
open Go Vm
set_option maxRecDepth 100000
set_option linter.unusedVariables false
set_option linter.unusedSimpArgs false
theorem nobody_law {h : Heap} {a b c id : Int} {x y : Value} (hx : x.oneCell' = true) (hy : y.oneCell' = true) (HA : ∀ h', ExtH h h' → Fx Tryz.prog 13 #[] h' fun u h'' => u = .bool true ∧ ExtH h' h'') :
    Fx Tryz.prog 3 #[.agg #[.int .i64 a, .int .i64 b, .int .i64 c, x, y], .int .u64 id] h fun u h' => u = .bool true ∧ ExtH h h' := by
  refine fn_of 103 Tryz.func3 rfl (by kernel_rfl) rfl (by simp) ?_
  refine cw_seq (cw_go rfl ?_)
  conv => whnf
  intro h1 n1
  conv => whnf
  have y1 : Blk h1 h.size [.int .i64 a, .int .i64 b, .int .i64 c, x, y] 27 := n1.blk
  refine cw_seq (cw_go rfl ?_)
  conv => whnf
  refine cw_seq (cw_seq (cw_go rfl ?_))
  conv => whnf
  refine cw_block ?_
  refine cw_loop (S := Nat) (fun i => [(1, .int .u64 id), (2, .pointer (some ⟨h.size, 0, none⟩)), (5, .pointer none), (6, .int .i64 (i : Int))])
    (fun i h' => i ≤ 2 ∧ ExtH h1 h') (fun i => 2 - i) 0 ⟨rfl, rfl, rfl, rfl, trivial⟩ ⟨by omega, ExtH.refl _⟩ ?_
  rintro i h2 ⟨hi, x2⟩
  refine cw_seq (cw_seq (cw_go rfl ?_))
  conv => whnf
  refine say_d (fun hg => ?_) (fun hg => ?_)
  · refine cw_true rfl (cw_skip ?_)
    refine cw_seq (cw_block ?_)
    refine cw_seq (cw_go rfl ?_)
    conv => whnf
    refine cw_cut2 (S := Value) (fun v => [(1, .int .u64 id), (2, .pointer (some ⟨h.size, 0, none⟩)), (5, .pointer none), (6, .int .i64 (i : Int)), (7, v)]) (fun v h' => Nob h' v ∧ ExtH h2 h') ?_ ?_
    · refine cw_seq (cw_go rfl ?_)
      conv => whnf
      refine say_d (fun hg2 => ?_) (fun hg2 => ?_)
      · refine cw_true rfl ?_
        refine cw_go rfl ?_
        conv => whnf
        refine ⟨_, rfl, cz.toArray, fun w => by kernel_rfl, ?_⟩
        conv => whnf
        conv => whnf
        intro h3 n3
        conv => whnf
        exact ⟨.pointer (some ⟨h2.size, 0, none⟩), ⟨rfl, rfl, rfl, rfl, rfl, trivial⟩, .inr ⟨_, rfl, n3.blk⟩, n3.ext⟩
      · refine cw_false rfl (cw_skip ?_)
        exact ⟨.pointer none, ⟨rfl, rfl, rfl, rfl, rfl, trivial⟩, .inl rfl, ExtH.refl _⟩
    · rintro v h3 ⟨N, x3⟩
      have x13 := x2.trans x3
      have y3 := x13.blk y1
      refine cw_seq (cw_go rfl ?_)
      conv => whnf
      refine ⟨_, rfl, _, nforget_fn N, ?_⟩
      rintro _ h4 e
      replace e := e.symm
      subst e
      conv => whnf
      refine cw_seq (cw_go rfl ?_)
      conv => whnf
      refine ⟨_, rfl, _, nstep_fn N id, ?_⟩
      rintro _ h4 ⟨rfl, e⟩
      replace e := e.symm
      subst e
      conv => whnf
      refine cw_seq (cw_go rfl ?_)
      conv => whnf
      refine ⟨_, rfl, _, nsteps_fn N id, ?_⟩
      rintro _ h4 ⟨rfl, e⟩
      replace e := e.symm
      subst e
      conv => whnf
      refine cw_seq (cw_go rfl ?_)
      conv => whnf
      refine ⟨_, rfl, _, nbound_fn N id, ?_⟩
      rintro _ h4 ⟨rfl, e⟩
      replace e := e.symm
      subst e
      conv => whnf
      refine cw_seq (cw_go rfl ?_)
      conv => whnf
      refine ⟨[.int .i64 a, .int .i64 b, .int .i64 c], rfl, y3.rdN 0 _ rfl, ?_⟩
      conv => whnf
      refine ⟨_, y3.rd (o := 3) rfl, ?_⟩
      conv => whnf
      refine ⟨_, y3.rd (o := 4) rfl, ?_⟩
      conv => whnf
      refine ⟨_, rfl, _, nbegin_fn N id a b c x y, ?_⟩
      rintro _ h4 ⟨rfl, x4⟩
      conv => whnf
      refine say_f (by decide) ?_
      conv => whnf
      refine say_f (by simp [bs]) ?_
      conv => whnf
      refine say_f (by decide) ?_
      conv => whnf
      refine say_i (by omega) ?_
      conv => whnf
      refine say_f (by decide) ?_
      conv => whnf
      refine say_f (by decide) ?_
      conv => whnf
      refine say_f (by decide) ?_
      conv => whnf
      refine ⟨_, rfl, _, ncancel_fn (N.more x4) id, ?_⟩
      rintro _ h5 ⟨rfl, e⟩
      replace e := e.symm
      subst e
      conv => whnf
      refine ⟨_, rfl, _, njobs_fn (N.more x4), ?_⟩
      rintro _ h5 ⟨rfl, e⟩
      replace e := e.symm
      subst e
      conv => whnf
      refine say_f (by decide) ?_
      conv => whnf
      refine ⟨_, rfl, _, nmemos_fn (N.more x4), ?_⟩
      rintro _ h5 ⟨rfl, x5⟩
      conv => whnf
      refine ⟨_, rfl, mmz, fun w => by kernel_rfl, ?_⟩
      conv => whnf
      conv => whnf
      refine ⟨.bool false, fun w => by kernel_rfl, ?_⟩
      conv => whnf
      conv => whnf
      refine ⟨_, rfl, _, nclone_fn (N.more (x4.trans x5)), ?_⟩
      rintro _ h6 ⟨rfl, e⟩
      replace e := e.symm
      subst e
      conv => whnf
      refine ⟨.bool false, fun w => by kernel_rfl, ?_⟩
      conv => whnf
      conv => whnf
      refine cw_false rfl (cw_skip ?_)
      refine cw_go rfl ?_
      conv => whnf
      refine say_i (by omega) ?_
      conv => whnf
      refine ⟨i + 1, ⟨rfl, rfl, rfl, by simp only []; rw [show ((i + 1 : Nat) : Int) = (i : Int) + 1 by push_cast; rfl]; rfl, trivial⟩, ⟨by omega, x13.trans (x4.trans x5)⟩, by show 2 - (i + 1) < 2 - i; omega⟩
  · refine cw_false rfl (cw_exit ?_)
    refine cw_seq (cw_go rfl ?_)
    conv => whnf
    refine ⟨_, rfl, _, HA _ (n1.ext.trans x2), ?_⟩
    rintro _ h3 ⟨rfl, x3⟩
    conv => whnf
    exact cw_ret ⟨rfl, n1.ext.trans (x2.trans x3)⟩
end Go.Proofs.YtdielfpgekenkaaGreatDoor
