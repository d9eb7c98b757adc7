/-
  Digests with tags, and those of the document: what the evaluator does.
  slices.Collect(maps.Keys(m)) of a map of texts with one entry or none.
  The drawn regions of the program: in which orders their heads are walked. Printed by a program.
  Tables as trees.
  The context of this program. Printed by a program.
-/
import Derived.Test.YtdielfpgekenkaaGreatDoorJ16
import Derived.Test.YtdielfpgekenkaaGreatDoorJ15
import Derived.Shelf.SlIter.Nil
import Derived.Ground.GgzProg
import Derived.Test.YtdielfpgekenkaaGreatDoorProg
import Derived.Test.YtdielfpgekenkaaGreatDoorJ7
namespace Go.Proofs.YtdielfpgekenkaaGreatDoor.Sx
open Go Vm
set_option linter.unusedSimpArgs false
set_option linter.unusedVariables false
noncomputable section
--DEFS
/-- the digest of parts for a purpose -/
def hTag (args : List SV) (st : St) : Option (SV × St) :=
  match args with
  | [.s t, x] => (partsS st x).bind fun ps => match Nat.blt (t.length + ps.flatten.length + ps.length) 1048576 && t.all (Nat.blt · 256) && Sha.isTag (t.map UInt8.ofNat) with
    | true => forceNs (ShaN.digN (ShaN.nats (Sha.pre (t.map UInt8.ofNat) (ps.map (·.map UInt8.ofNat))))) fun d => some (.tup [.agg (d.map cellB), .i .i64 0], st)
    | false => none
  | _ => none
def kRow : List SV := ShaN.KN.map fun n => .i .u32 (.ofNat n)
def tabB (st : St) : Bool :=
  match st.hp.get 1 with
  | some (.tab l) => eqVs l kRow
  | _ => false
def hROf (args : List SV) (st : St) : Option (SV × St) :=
  match tabB st with
  | true => hOf args st
  | false => none
def hRTag (args : List SV) (st : St) : Option (SV × St) :=
  match tabB st with
  | true => hTag args st
  | false => none
--END
end
end Go.Proofs.YtdielfpgekenkaaGreatDoor.Sx
namespace Go.Proofs
open Go.RowKit Go.Maps Go.Sort Go.Shelf
shelf_lay_g SlLaysZ.n10 Ggz 10 at Tryz 312 as Tryz.keysIt
shelf_lay_g SlLaysZ.n8 Ggz 8 at Tryz 310 as Tryz.coll
end Go.Proofs
namespace Go.Proofs.YtdielfpgekenkaaGreatDoor.Sx
open Go Vm Go.Sort Go.Maps
set_option linter.unusedSimpArgs false
set_option linter.unusedVariables false
noncomputable def hColl (room : Nat) (args : List SV) (st : St) : Option (SV × St) :=
  match args with
  | [.f g [] [.p b 0]] => if g = 312 then (rowOf st b).bind fun r => match r.1 with
      | [.m id] => (mapOf st id).bind fun es => match es with
        | [] => some (.sn, st)
        | [(.s x, _)] => if x.length < room then newS st (.row [.s x] 9 (some 1) true) fun id st => some (.sg id 0 0 1, st) else none
        | _ => none
      | _ => none
    else none
  | _ => none
abbrev Dt := DataW Unit
def anyR : Value → Option (Dt × List MemPlace) := fun _ => some (.nil, [])
theorem own_of_row {w : World} {base e z n : Nat} {v : Value} {xs : List Value} (hr : w.ownsRow base e z v n xs) : OwnS w.heap e z v n xs ∧ ∀ b, ob v b → base ≤ b := by
  obtain ⟨hl, hr⟩ := hr
  rcases hr with ⟨rfl, rfl⟩ | ⟨g, cap, cur, rfl, hb, hg, hnc, hcm, hs, ht⟩
  · exact ⟨⟨hl, .inl ⟨rfl, rfl⟩⟩, fun b hb => absurd hb ob_nil⟩
  · refine ⟨⟨hl, .inr ⟨g, cap, cur.toList.drop (n * z), rfl, ?_, hnc, hcm, ?_⟩⟩, fun b h => by rw [ob_slice] at h; omega⟩
    · unfold Blk
      rw [hg, ← ht, List.take_append_drop]
    · rw [← ht, List.take_append_drop]; simpa using hs
theorem collect_calls (w : World) (Bm : Nat) (hBm : Bm < w.heap.size) {b : Nat} (hm : w.cell? ⟨Bm, 0, none⟩ = some (.map (some b))) {es : Array MapEntry} {c : Nat} (hb : w.heap[b]? = some (.map es c)) (hSt : MapKept.Stamped es c) (hsz : es.size ≤ 100)
    (hk : ∀ x ∈ es.toList, ∃ s : ByteArray, x.key = .string s ∧ s.size ≤ maxLen) :
    Calls Tryz.prog 310 #[.func (.func 312) #[] #[.pointer (some ⟨Bm, 0, none⟩)]] w fun e w' => ∃ (v : Value) (ss : List (List UInt8)), e = .returned v ∧ ss.Perm (strKeys (.map ((es.toList.map (WideElems.rg Tryz.prog 9 anyR)).foldr DataW.insert []) : Dt)) ∧ w'.ownsRow w.heap.size 9 1 v ss.length (ss.map encStr) ∧ (v = .slice none 0 0 ↔ ss = []) ∧ RowKit.Below w.heap.size w w' := by
  have hown : w.ownsMap Tryz.prog 9 anyR b es.size (.map ((es.toList.map (WideElems.rg Tryz.prog 9 anyR)).foldr DataW.insert [])) := by
    refine ⟨es, c, hb, ⟨?_, hSt, fun x hx => ?_⟩, Nat.le_refl _, rfl⟩
    · simp only [maxLen]; omega
    · obtain ⟨s, h1, h2⟩ := hk x hx
      have := WideMaps.keyOf_string_mk (P := Tryz.prog) (k := 9) (by kernel_rfl) h2
      refine ⟨(.string s.data.toList, .nil), ?_⟩
      unfold WideElems.rd
      rw [h1, this]
      rfl
  have hle := Nat.le_trans hown.size_le hsz
  have hg := Go.Proofs.AnyZ.keys_gives (ρ := Tryz.keysIt_ren) Tryz.keysIt Fence.wide 2 trivial rfl (by omega) Bm b es.size _ w hBm hm hown
  exact callsIn_wide.1 (Go.Proofs.AnyZ.collect_in Tryz.coll Fence.wide 4 trivial trivial rfl (by omega) 312 #[.pointer (some ⟨Bm, 0, none⟩)] trivial (Go.Proofs.enters_of (P := Tryz.prog) (f := 312) Tryz.func312 (by kernel_rfl) rfl) _ _ (by simp only [maxLen]; omega) (by omega) w hg)
theorem cells_rd {h : Heap} {b : Nat} {l : List Value} {t : Nat} {v : Value} (hb : BlkF h b (l) t) (e : l[0]? = some v) : Vm.rd h ⟨b, 0, none⟩ = some v := hb.rd e
theorem below_ext {w w' : World} (b : RowKit.Below w.heap.size w w') : SameEnv w w' ∧ ExtH w.heap w'.heap := ⟨⟨b.os, b.tape, b.output⟩, b.size, b.block⟩
theorem coll_ok {C : Cx} (hP : C.P = Tryz.prog) {args : List SV} {st st' : St} {s : SV} (e : hColl 1048576 args st = some (s, st')) {σ : Env} {h : Heap} {vs : List Value} (H : Rep C.ng st σ h) (hv : denL σ args = some vs) :
    Fx C.P 310 vs.toArray h fun v h' => ∃ σ', den σ' s = some v ∧ Goes C.ng st σ h st' σ' h' := by
  rw [hP]
  unfold hColl at e
  split at e
  · rename_i g b
    split at e
    · rename_i hg
      subst hg
      simp only [Option.bind_eq_some_iff] at e
      obtain ⟨⟨l, t, gg⟩, hr, e⟩ := e
      simp only at e
      split at e
      · rename_i id
        simp only [Option.bind_eq_some_iff] at e
        obtain ⟨es, he, e⟩ := e
        obtain ⟨q, cs, tl, hq, hl, _, hb, _⟩ := row_rd (H.obs (Pre.refl _)) hr
        obtain ⟨q2, mes, c, hq2, hb2, hM, _, hSt⟩ := map_obs (H.obs (Pre.refl _)) he
        simp only [denL, den, hq2, Option.map_some, Option.bind_some, Option.some.injEq] at hl
        subst hl
        simp only [denL, den, hq, Option.map_some, Option.bind_some, Option.some.injEq] at hv
        subst hv
        have hcell : Vm.rd h ⟨q.1, 0, none⟩ = some (.map (some q2.1)) := hb.rd rfl
        have hlt := (H.dom b q hq).2
        have key : ∀ (ss0 : List (List UInt8)), (∀ x ∈ mes.toList, ∃ s : ByteArray, x.key = .string s ∧ s.size ≤ maxLen) → mes.size ≤ 100 → (∀ ss : List (List UInt8), ss.Perm (strKeys (.map ((mes.toList.map (WideElems.rg Tryz.prog 9 anyR)).foldr DataW.insert []) : Dt)) → ss = ss0) →
            ∀ R : Value → Heap → Prop, (∀ v h', OwnS h' 9 1 v ss0.length (ss0.map encStr) → (∀ b, ob v b → h.size ≤ b) → (v = .slice none 0 0 ↔ ss0 = []) → ExtH h h' → R v h') →
            Fx Tryz.prog 310 #[.func (.func 312) #[] #[.pointer (some ⟨q.1, 0, none⟩)]] h R := by
          intro ss0 hk hsz hp R hR
          refine .inl ⟨by kernel_rfl, fun w hw => ?_⟩
          subst hw
          refine (collect_calls w q.1 hlt (by rw [cell_eq_rd]; exact hcell) hb2 hSt hsz hk).mono ?_
          rintro _ w' ⟨v, ss, rfl, hS, hrow, hnil, hbl⟩
          have := hp ss hS
          subst this
          obtain ⟨o1, o2⟩ := own_of_row hrow
          exact ⟨v, rfl, (below_ext hbl).1, hR v _ o1 o2 hnil (below_ext hbl).2⟩
        split at e
        · cases e
          have : mes.toList = [] := by rw [denM_nil] at hM; exact hM
          refine key [] (by simp [this]) (by rw [← Array.length_toList, this]; simp) (fun ss hs => ?_) _ fun v h' _ _ hn hx => ?_
          · rw [this] at hs
            simpa [strKeys] using hs
          · have := hn.2 rfl
            subst this
            exact ⟨σ, rfl, H.ext hx, Steps.ext _ _ _ hx, Nat.le_refl _, Nat.le_refl _⟩
        · rename_i x u _
          split at e
          · rename_i hx
            cases hm : mes.toList with
            | nil => rw [hm] at hM; unfold denM at hM; simp only [List.map_cons, denL, Option.bind_eq_some_iff, Option.map_eq_some_iff] at hM; obtain ⟨⟨_, _, _, _, h⟩, _⟩ := hM; simp at h
            | cons m ms =>
              rw [hm, denM_cons] at hM
              obtain ⟨⟨hk, hu⟩, hM⟩ := hM
              rw [denM_nil] at hM
              subst hM
              obtain ⟨al, hkv⟩ := den_s hk
              have hsz : (bytesOf x).size ≤ maxLen := by rw [bytesOf_size]; simp only [maxLen]; omega
              have hkey := WideMaps.keyOf_string_mk (P := Tryz.prog) (k := 9) (by kernel_rfl) hsz
              refine key [x.map UInt8.ofNat] (by rw [hm]; intro y hy; simp only [List.mem_singleton] at hy; subst hy; exact ⟨_, hkv, hsz⟩) (by rw [← Array.length_toList, hm]; simp) (fun ss hs => ?_) _ fun v h' ho hob _ hxt => ?_
              · rw [hm] at hs
                have hrg : WideElems.rg Tryz.prog 9 anyR m = ((.string (x.map UInt8.ofNat) : Lit), (.nil : Dt)) := by
                  unfold WideElems.rg WideElems.rd
                  rw [hkv, hkey]
                  simp only [Option.bind_some, anyR, Option.map_some, Option.getD_some]
                  simp [bytesOf]
                simp only [List.map_cons, List.map_nil, hrg, List.foldr_cons, List.foldr_nil] at hs
                have : strKeys (.map (DataW.insert ((.string (x.map UInt8.ofNat) : Lit), (.nil : Dt)) []) : Dt) = [x.map UInt8.ofNat] := rfl
                rw [this] at hs
                exact List.perm_singleton.1 hs
              · have hl1 : denL σ [.s x] = some [encStr (x.map UInt8.ofNat)] := by
                  simp only [denL, den, al, if_true, Option.bind_some, Option.map_some, bytesOf]
                obtain ⟨s2, st2, σ2, e2, e3, e4⟩ := own_new (k := fun s st => some (s, st)) (r := (s, st')) H hl1 (by simp; rfl) ho (by simp) hxt hob e
                cases e2
                exact ⟨σ2, e3, e4⟩
          · cases e
        · cases e
      · cases e
    · cases e
  · cases e
end Go.Proofs.YtdielfpgekenkaaGreatDoor.Sx
namespace Go.Proofs.YtdielfpgekenkaaGreatDoor.Sx
open Go Vm
def tab8 : List (Nat × Tab) := [(5, ⟨9, (lin [] [0, 1, 2, 3, 4, 5, 6, 7, 8]), [], []⟩), (7, ⟨12, (lin [9, 10, 11] [0, 1, 2, 3, 4, 5, 6, 7, 8, 9, 10, 11]), [], []⟩)]
def tab11 : List (Nat × Tab) := [(3, ⟨23, (lin [5, 11, 17] [0, 1, 2, 3, 4, 6, 7, 8, 9, 10, 12, 13, 14, 15, 16, 18, 19, 20, 21, 22, 5, 11, 17]), [], []⟩)]
def tab12 : List (Nat × Tab) := [(3, ⟨8, (lin [] [0, 1, 2, 3, 4, 5, 6, 7]), [], []⟩), (4, ⟨26, (lin [6, 12, 18, 24] [0, 1, 2, 3, 4, 5, 7, 8, 9, 10, 11, 13, 14, 15, 16, 17, 19, 20, 21, 22, 23, 6, 12, 18, 24, 25]), [], []⟩), (8, ⟨9, (lin [6, 7, 8] [0, 1, 2, 3, 4, 5, 6, 7, 8]), [], []⟩)]
def tab19 : List (Nat × Tab) := [(1, ⟨9, (.q 0 (.q 1 (.q 2 (.q 4 (.i3 3 (.i3 5 (.q 6 (.i2 7 (.i1 8 .leaf) 8 (.i1 7 .leaf))) 7 (.i2 5 (.q 6 (.i1 8 .leaf)) 8 (.i1 5 (.q 6 .leaf))) 8 (.i2 5 (.q 6 (.i1 7 .leaf)) 7 (.i1 5 (.q 6 .leaf)))) 7 (.i2 3 (.i2 5 (.q 6 (.i1 8 .leaf)) 8 (.i1 5 (.q 6 .leaf))) 8 (.i1 3 (.i1 5 (.q 6 .leaf)))) 8 (.i2 3 (.i2 5 (.q 6 (.i1 7 .leaf)) 7 (.i1 5 (.q 6 .leaf))) 7 (.i1 3 (.i1 5 (.q 6 .leaf))))))))), [], []⟩)]
def tab20 : List (Nat × Tab) := [(5, ⟨6, (lin [] [0, 1, 2, 3, 4, 5]), [], []⟩)]
def tab25 : List (Nat × Tab) := [(7, ⟨9, (lin [] [0, 1, 2, 3, 4, 5, 6, 7, 8]), [], []⟩)]
def tab26 : List (Nat × Tab) := [(7, ⟨9, (lin [] [0, 1, 2, 3, 4, 5, 6, 7, 8]), [], []⟩)]
def tab27 : List (Nat × Tab) := [(7, ⟨9, (lin [] [0, 1, 2, 3, 4, 5, 6, 7, 8]), [], []⟩)]
def tab28 : List (Nat × Tab) := [(7, ⟨9, (lin [] [0, 1, 2, 3, 4, 5, 6, 7, 8]), [], []⟩)]
def tab38 : List (Nat × Tab) := [(8, ⟨12, (lin [3, 4, 8] [0, 1, 2, 5, 6, 7, 9, 10, 11, 3, 4, 8]), [], []⟩), (10, ⟨7, (.q 0 (.q 1 (.q 2 (.q 4 (.q 5 (.i2 3 (.i1 6 .leaf) 6 (.i1 3 .leaf))))))), [], []⟩), (15, ⟨12, (lin [3, 4, 8] [0, 1, 2, 5, 6, 7, 9, 10, 11, 3, 4, 8]), [], []⟩)]
def tab40 : List (Nat × Tab) := [(1, ⟨6, (lin [] [0, 1, 2, 3, 4, 5]), [], []⟩)]
def tab43 : List (Nat × Tab) := [(1, ⟨9, (lin [8] [0, 1, 2, 3, 4, 5, 6, 7, 8]), [8], []⟩)]
def tab48 : List (Nat × Tab) := [(4, ⟨5, (lin [] [0, 1, 2, 3, 4]), [], []⟩), (10, ⟨9, (lin [] [0, 1, 2, 3, 4, 5, 6, 7, 8]), [], []⟩), (15, ⟨6, (lin [] [0, 1, 2, 3, 4, 5]), [], []⟩)]
def tab49 : List (Nat × Tab) := [(4, ⟨5, (lin [] [0, 1, 2, 3, 4]), [], []⟩), (10, ⟨9, (lin [] [0, 1, 2, 3, 4, 5, 6, 7, 8]), [], []⟩), (15, ⟨6, (lin [] [0, 1, 2, 3, 4, 5]), [], []⟩)]
def tab50 : List (Nat × Tab) := [(4, ⟨5, (lin [] [0, 1, 2, 3, 4]), [], []⟩), (10, ⟨9, (lin [] [0, 1, 2, 3, 4, 5, 6, 7, 8]), [], []⟩), (15, ⟨6, (lin [] [0, 1, 2, 3, 4, 5]), [], []⟩)]
def tab51 : List (Nat × Tab) := [(4, ⟨5, (lin [] [0, 1, 2, 3, 4]), [], []⟩), (10, ⟨9, (lin [] [0, 1, 2, 3, 4, 5, 6, 7, 8]), [], []⟩), (15, ⟨6, (lin [] [0, 1, 2, 3, 4, 5]), [], []⟩)]
def tab61 : List (Nat × Tab) := [(11, ⟨10, (lin [8, 9] [0, 1, 2, 3, 4, 5, 6, 7, 8, 9]), [], []⟩)]
def tab62 : List (Nat × Tab) := [(1, ⟨11, (lin [10] [0, 1, 2, 3, 4, 5, 6, 7, 8, 9, 10]), [], []⟩), (2, ⟨14, (.q 0 (.q 1 (.q 2 (.q 3 (.q 4 (.q 5 (.q 6 (.q 7 (.q 11 (.i2 8 (.i2 9 (.i2 10 (.i2 12 (.i1 13 .leaf) 13 (.i1 12 .leaf)) 13 (.i1 10 (.i1 12 .leaf))) 13 (.i1 9 (.i1 10 (.i1 12 .leaf)))) 13 (.i1 8 (.i1 9 (.i1 10 (.i1 12 .leaf)))))))))))))), [12], [13]⟩), (5, ⟨6, (lin [] [0, 1, 2, 3, 4, 5]), [], []⟩)]
def tab63 : List (Nat × Tab) := [(1, ⟨11, (lin [10] [0, 1, 2, 3, 4, 5, 6, 7, 8, 9, 10]), [], []⟩), (3, ⟨4, (lin [3] [0, 1, 2, 3]), [], []⟩), (8, ⟨9, (lin [8] [0, 1, 2, 3, 4, 5, 6, 7, 8]), [], []⟩), (9, ⟨6, (lin [] [0, 1, 2, 3, 4, 5]), [], []⟩), (10, ⟨15, (lin [14] [0, 1, 2, 3, 4, 5, 6, 7, 8, 9, 10, 11, 12, 13, 14]), [], []⟩), (12, ⟨8, (lin [6, 7] [0, 1, 2, 3, 4, 5, 6, 7]), [], []⟩), (13, ⟨6, (lin [3, 5] [0, 1, 2, 4, 3, 5]), [], []⟩), (15, ⟨6, (lin [] [0, 1, 2, 3, 4, 5]), [], []⟩), (17, ⟨10, (.q 0 (.q 1 (.q 2 (.q 3 (.q 4 (.q 5 (.q 7 (.i2 6 (.i2 8 (.i1 9 .leaf) 9 (.i1 8 .leaf)) 9 (.i1 6 (.i1 8 .leaf)))))))))), [8], [9]⟩), (20, ⟨6, (lin [] [0, 1, 2, 3, 4, 5]), [], []⟩), (22, ⟨8, (lin [] [0, 1, 2, 3, 4, 5, 6, 7]), [], []⟩), (23, ⟨22, (lin [] [0, 1, 2, 3, 4, 5, 6, 7, 8, 9, 10, 11, 12, 13, 14, 15, 16, 17, 18, 19, 20, 21]), [], []⟩)]
def tab64 : List (Nat × Tab) := [(1, ⟨11, (lin [10] [0, 1, 2, 3, 4, 5, 6, 7, 8, 9, 10]), [], []⟩), (2, ⟨7, (.q 0 (.q 1 (.q 3 (.q 4 (.q 5 (.i2 2 (.i1 6 .leaf) 6 (.i1 2 .leaf))))))), [], []⟩), (7, ⟨9, (.q 0 (.q 1 (.q 2 (.q 4 (.q 5 (.q 7 (.i2 3 (.i1 6 (.i1 8 .leaf)) 6 (.i1 3 (.i1 8 .leaf))))))))), [], []⟩), (9, ⟨10, (.q 0 (.q 1 (.q 2 (.q 3 (.q 4 (.q 5 (.q 7 (.i2 6 (.i2 8 (.i1 9 .leaf) 9 (.i1 8 .leaf)) 9 (.i1 6 (.i1 8 .leaf)))))))))), [], [9]⟩), (11, ⟨9, (lin [7, 8] [0, 1, 2, 3, 4, 5, 6, 7, 8]), [], []⟩)]
def tab65 : List (Nat × Tab) := [(3, ⟨16, (lin [15] [0, 1, 2, 3, 4, 5, 6, 7, 8, 9, 10, 11, 12, 13, 14, 15]), [], []⟩), (8, ⟨23, (lin [18] [0, 1, 2, 3, 4, 5, 6, 7, 8, 9, 10, 11, 12, 13, 14, 15, 16, 17, 18, 19, 20, 21, 22]), [], []⟩)]
def tab66 : List (Nat × Tab) := [(2, ⟨8, (lin [] [0, 1, 2, 3, 4, 5, 6, 7]), [], []⟩), (5, ⟨8, (lin [] [0, 1, 2, 3, 4, 5, 6, 7]), [], []⟩)]
def tab68 : List (Nat × Tab) := [(3, ⟨8, (lin [] [0, 1, 2, 3, 4, 5, 6, 7]), [], []⟩)]
def tab69 : List (Nat × Tab) := [(2, ⟨8, (lin [] [0, 1, 2, 3, 4, 5, 6, 7]), [], []⟩), (5, ⟨8, (lin [] [0, 1, 2, 3, 4, 5, 6, 7]), [], []⟩)]
def tab71 : List (Nat × Tab) := [(3, ⟨8, (lin [] [0, 1, 2, 3, 4, 5, 6, 7]), [], []⟩)]
def tab72 : List (Nat × Tab) := [(2, ⟨8, (lin [] [0, 1, 2, 3, 4, 5, 6, 7]), [], []⟩), (5, ⟨8, (lin [] [0, 1, 2, 3, 4, 5, 6, 7]), [], []⟩)]
def tab74 : List (Nat × Tab) := [(3, ⟨8, (lin [] [0, 1, 2, 3, 4, 5, 6, 7]), [], []⟩)]
def tab75 : List (Nat × Tab) := [(2, ⟨8, (lin [] [0, 1, 2, 3, 4, 5, 6, 7]), [], []⟩), (5, ⟨8, (lin [] [0, 1, 2, 3, 4, 5, 6, 7]), [], []⟩)]
def tab77 : List (Nat × Tab) := [(3, ⟨8, (lin [] [0, 1, 2, 3, 4, 5, 6, 7]), [], []⟩)]
def tab80 : List (Nat × Tab) := [(11, ⟨8, (lin [7] [0, 1, 2, 3, 4, 5, 6, 7]), [], []⟩), (22, ⟨8, (lin [7] [0, 1, 2, 3, 4, 5, 6, 7]), [], []⟩)]
def tab85 : List (Nat × Tab) := [(14, ⟨5, (lin [] [0, 1, 2, 3, 4]), [], []⟩)]
def tab86 : List (Nat × Tab) := [(11, ⟨11, (lin [] [0, 1, 2, 3, 4, 5, 6, 7, 8, 9, 10]), [], []⟩)]
def tab88 : List (Nat × Tab) := [(1, ⟨6, (lin [5] [0, 1, 2, 3, 4, 5]), [5], []⟩)]
def tab89 : List (Nat × Tab) := [(8, ⟨7, (lin [] [0, 1, 2, 3, 4, 5, 6]), [], []⟩)]
def tab90 : List (Nat × Tab) := [(11, ⟨5, (lin [] [0, 1, 2, 3, 4]), [], []⟩)]
def tab95 : List (Nat × Tab) := [(1, ⟨15, (.q 0 (.q 1 (.q 2 (.q 3 (.q 4 (.q 5 (.q 6 (.q 7 (.i3 8 (.q 9 (.q 10 (.q 11 (.i2 12 (.i1 13 (.i1 14 .leaf)) 13 (.i1 12 (.i1 14 .leaf)))))) 12 (.i2 8 (.q 9 (.q 10 (.q 11 (.i1 13 (.i1 14 .leaf))))) 13 (.i1 8 (.q 9 (.q 10 (.q 11 (.i1 14 .leaf)))))) 13 (.i2 8 (.q 9 (.q 10 (.q 11 (.i1 12 (.i1 14 .leaf))))) 12 (.i1 8 (.q 9 (.q 10 (.q 11 (.i1 14 .leaf))))))))))))))), [14], [12, 13]⟩)]
def tab96 : List (Nat × Tab) := [(4, ⟨3, (lin [2] [0, 1, 2]), [2], []⟩), (5, ⟨3, (lin [2] [0, 1, 2]), [2], []⟩)]
def tab97 : List (Nat × Tab) := [(3, ⟨8, (lin [] [0, 1, 2, 3, 4, 5, 6, 7]), [], []⟩), (4, ⟨8, (lin [6, 7] [0, 1, 2, 3, 4, 5, 6, 7]), [], []⟩)]
def tab98 : List (Nat × Tab) := [(1, ⟨9, (lin [] [0, 1, 2, 3, 4, 5, 6, 7, 8]), [], []⟩)]
def tab101 : List (Nat × Tab) := [(1, ⟨14, (.q 0 (.q 1 (.q 2 (.q 3 (.q 4 (.q 5 (.q 6 (.q 7 (.i2 8 (.q 9 (.q 10 (.q 11 (.i1 12 (.i1 13 .leaf))))) 12 (.i1 8 (.q 9 (.q 10 (.q 11 (.i1 13 .leaf)))))))))))))), [13], [12]⟩)]
def tab102 : List (Nat × Tab) := [(13, ⟨13, (lin [12] [0, 1, 2, 3, 4, 5, 6, 7, 8, 9, 10, 11, 12]), [], []⟩), (19, ⟨5, (lin [3, 4] [0, 1, 2, 3, 4]), [], []⟩)]
def tab104 : List (Nat × Tab) := [(1, ⟨16, (.q 0 (.q 1 (.q 2 (.q 3 (.q 4 (.q 5 (.q 6 (.q 7 (.q 8 (.q 9 (.i2 10 (.q 11 (.q 12 (.q 13 (.i1 14 (.i1 15 .leaf))))) 14 (.i1 10 (.q 11 (.q 12 (.q 13 (.i1 15 .leaf)))))))))))))))), [15], [14]⟩)]
def tab105 : List (Nat × Tab) := [(6, ⟨8, (.q 0 (.q 1 (.q 2 (.q 3 (.q 5 (.q 6 (.i2 4 (.i1 7 .leaf) 7 (.i1 4 .leaf)))))))), [], []⟩), (16, ⟨9, (lin [7, 8] [0, 1, 2, 3, 4, 5, 6, 7, 8]), [], []⟩)]
def tab106 : List (Nat × Tab) := [(7, ⟨9, (lin [3, 4] [0, 1, 2, 5, 6, 7, 8, 3, 4]), [], []⟩), (19, ⟨9, (lin [3, 4] [0, 1, 2, 5, 6, 7, 8, 3, 4]), [], []⟩)]
def tab107 : List (Nat × Tab) := [(5, ⟨5, (lin [] [0, 1, 2, 3, 4]), [], []⟩), (6, ⟨5, (lin [] [0, 1, 2, 3, 4]), [], []⟩), (7, ⟨6, (lin [] [0, 1, 2, 3, 4, 5]), [], []⟩), (11, ⟨5, (lin [] [0, 1, 2, 3, 4]), [], []⟩), (12, ⟨9, (lin [] [0, 1, 2, 3, 4, 5, 6, 7, 8]), [], []⟩), (14, ⟨5, (lin [] [0, 1, 2, 3, 4]), [], []⟩)]
def tab109 : List (Nat × Tab) := [(5, ⟨5, (lin [] [0, 1, 2, 3, 4]), [], []⟩), (6, ⟨5, (lin [] [0, 1, 2, 3, 4]), [], []⟩), (7, ⟨6, (lin [] [0, 1, 2, 3, 4, 5]), [], []⟩), (11, ⟨5, (lin [] [0, 1, 2, 3, 4]), [], []⟩), (12, ⟨5, (lin [] [0, 1, 2, 3, 4]), [], []⟩), (13, ⟨5, (lin [] [0, 1, 2, 3, 4]), [], []⟩)]
def tab111 : List (Nat × Tab) := [(7, ⟨7, (lin [] [0, 1, 2, 3, 4, 5, 6]), [], []⟩), (8, ⟨6, (lin [] [0, 1, 2, 3, 4, 5]), [], []⟩)]
def tab115 : List (Nat × Tab) := [(15, ⟨9, (lin [6] [0, 1, 2, 3, 4, 5, 6, 7, 8]), [6], []⟩), (16, ⟨9, (lin [6] [0, 1, 2, 3, 4, 5, 6, 7, 8]), [6], []⟩)]
def tab116 : List (Nat × Tab) := [(7, ⟨16, (lin [11] [0, 1, 2, 3, 4, 5, 6, 7, 8, 9, 10, 11, 12, 13, 14, 15]), [], []⟩)]
def tab117 : List (Nat × Tab) := [(2, ⟨13, (.q 0 (.q 1 (.q 2 (.q 3 (.q 4 (.q 5 (.i3 6 (.q 7 (.q 8 (.q 9 (.i2 10 (.i1 11 (.i1 12 .leaf)) 11 (.i1 10 (.i1 12 .leaf)))))) 10 (.i2 6 (.q 7 (.q 8 (.q 9 (.i1 11 (.i1 12 .leaf))))) 11 (.i1 6 (.q 7 (.q 8 (.q 9 (.i1 12 .leaf)))))) 11 (.i2 6 (.q 7 (.q 8 (.q 9 (.i1 10 (.i1 12 .leaf))))) 10 (.i1 6 (.q 7 (.q 8 (.q 9 (.i1 12 .leaf))))))))))))), [12], [10, 11]⟩), (4, ⟨14, (lin [12, 13] [0, 1, 2, 3, 4, 5, 6, 7, 8, 9, 10, 11, 12, 13]), [], []⟩), (5, ⟨8, (lin [6, 7] [0, 1, 2, 3, 4, 5, 6, 7]), [], []⟩), (11, ⟨11, (.q 0 (.q 1 (.q 2 (.q 3 (.q 4 (.q 5 (.q 6 (.q 7 (.q 8 (.i2 9 (.i1 10 .leaf) 10 (.i1 9 .leaf))))))))))), [], [10]⟩), (13, ⟨16, (lin [14, 15] [0, 1, 2, 3, 4, 5, 6, 7, 8, 9, 10, 11, 12, 13, 14, 15]), [], []⟩), (15, ⟨16, (lin [15] [0, 1, 2, 3, 4, 5, 6, 7, 8, 9, 10, 11, 12, 13, 14, 15]), [], []⟩), (17, ⟨8, (lin [6, 7] [0, 1, 2, 3, 4, 5, 6, 7]), [], []⟩), (19, ⟨10, (lin [8, 9] [0, 1, 2, 3, 4, 5, 6, 7, 8, 9]), [], []⟩), (20, ⟨6, (lin [5] [0, 1, 2, 3, 4, 5]), [5], []⟩), (21, ⟨8, (lin [6, 7] [0, 1, 2, 3, 4, 5, 6, 7]), [], []⟩), (22, ⟨22, (lin [] [0, 1, 2, 3, 4, 5, 6, 7, 8, 9, 10, 11, 12, 13, 14, 15, 16, 17, 18, 19, 20, 21]), [], []⟩), (24, ⟨10, (lin [8, 9] [0, 1, 2, 3, 4, 5, 6, 7, 8, 9]), [], []⟩), (25, ⟨8, (lin [6, 7] [0, 1, 2, 3, 4, 5, 6, 7]), [], []⟩)]
def tab120 : List (Nat × Tab) := [(13, ⟨10, (lin [] [0, 1, 2, 3, 4, 5, 6, 7, 8, 9]), [], []⟩), (24, ⟨7, (lin [] [0, 1, 2, 3, 4, 5, 6]), [], []⟩), (30, ⟨14, (lin [13] [0, 1, 2, 3, 4, 5, 6, 7, 8, 9, 10, 11, 12, 13]), [], []⟩), (31, ⟨7, (lin [5, 6] [0, 1, 2, 3, 4, 5, 6]), [], []⟩)]
def tab130 : List (Nat × Tab) := [(4, ⟨15, (.q 0 (.q 1 (.q 2 (.q 3 (.q 4 (.q 5 (.q 6 (.q 7 (.q 8 (.q 9 (.q 12 (.i2 10 (.i2 11 (.i2 13 (.i1 14 .leaf) 14 (.i1 13 .leaf)) 14 (.i1 11 (.i1 13 .leaf))) 14 (.i1 10 (.i1 11 (.i1 13 .leaf))))))))))))))), [13], [14]⟩), (6, ⟨15, (lin [13, 14] [0, 1, 2, 3, 4, 5, 6, 7, 8, 9, 10, 11, 12, 13, 14]), [], []⟩), (16, ⟨12, (lin [10, 11] [0, 1, 2, 3, 4, 5, 6, 7, 8, 9, 10, 11]), [], []⟩), (18, ⟨16, (lin [15] [0, 1, 2, 3, 4, 5, 6, 7, 8, 9, 10, 11, 12, 13, 14, 15]), [], []⟩), (21, ⟨11, (lin [] [0, 1, 2, 3, 4, 5, 6, 7, 8, 9, 10]), [], []⟩), (22, ⟨8, (lin [6, 7] [0, 1, 2, 3, 4, 5, 6, 7]), [], []⟩)]
def tab133 : List (Nat × Tab) := [(4, ⟨5, (lin [] [0, 1, 2, 3, 4]), [], []⟩)]
def tab137 : List (Nat × Tab) := [(20, ⟨8, (lin [6, 7] [0, 1, 2, 3, 4, 5, 6, 7]), [], []⟩), (22, ⟨10, (lin [7, 8, 9] [0, 1, 2, 3, 4, 5, 6, 7, 8, 9]), [], []⟩)]
def tab138 : List (Nat × Tab) := [(4, ⟨5, (lin [] [0, 1, 2, 3, 4]), [], []⟩)]
def tab141 : List (Nat × Tab) := [(7, ⟨12, (lin [10, 11] [0, 1, 2, 3, 4, 5, 6, 7, 8, 9, 10, 11]), [11], []⟩), (10, ⟨11, (lin [] [0, 1, 2, 3, 4, 5, 6, 7, 8, 9, 10]), [], []⟩), (17, ⟨12, (lin [10, 11] [0, 1, 2, 3, 4, 5, 6, 7, 8, 9, 10, 11]), [11], []⟩), (19, ⟨8, (lin [7] [0, 1, 2, 3, 4, 5, 6, 7]), [], []⟩), (35, ⟨3, (lin [] [0, 1, 2]), [], []⟩)]
def tab148 : List (Nat × Tab) := [(4, ⟨5, (lin [] [0, 1, 2, 3, 4]), [], []⟩)]
def tab153 : List (Nat × Tab) := [(6, ⟨10, (lin [8, 9] [0, 1, 2, 3, 4, 5, 6, 7, 8, 9]), [], []⟩), (13, ⟨9, (lin [8] [0, 1, 2, 3, 4, 5, 6, 7, 8]), [8], []⟩)]
def tab154 : List (Nat × Tab) := [(7, ⟨23, (lin [2, 7] [0, 1, 2, 3, 4, 5, 6, 7, 8, 9, 10, 11, 12, 13, 14, 15, 16, 17, 18, 19, 20, 21, 22]), [], []⟩), (14, ⟨23, (lin [1] [0, 1, 2, 3, 4, 5, 6, 7, 8, 9, 10, 11, 12, 13, 14, 15, 16, 17, 18, 19, 20, 21, 22]), [], []⟩)]
def tab159 : List (Nat × Tab) := [(7, ⟨8, (lin [7] [0, 1, 2, 3, 4, 5, 6, 7]), [], []⟩), (9, ⟨8, (lin [7] [0, 1, 2, 3, 4, 5, 6, 7]), [], []⟩)]
def tab162 : List (Nat × Tab) := [(5, ⟨8, (lin [7] [0, 1, 2, 3, 4, 5, 6, 7]), [], []⟩)]
def tab164 : List (Nat × Tab) := [(17, ⟨7, (lin [] [0, 1, 2, 3, 4, 5, 6]), [], []⟩), (34, ⟨9, (lin [8] [0, 1, 2, 3, 4, 5, 6, 7, 8]), [], []⟩)]
def tab171 : List (Nat × Tab) := [(9, ⟨14, (lin [] [0, 1, 2, 3, 4, 5, 6, 7, 8, 9, 10, 11, 12, 13]), [], []⟩), (11, ⟨9, (lin [8] [0, 1, 2, 3, 4, 5, 6, 7, 8]), [], []⟩)]
def tab173 : List (Nat × Tab) := [(16, ⟨15, (lin [13, 14] [0, 1, 2, 3, 4, 5, 6, 7, 8, 9, 10, 11, 12, 13, 14]), [], []⟩), (22, ⟨8, (lin [6, 7] [0, 1, 2, 3, 4, 5, 6, 7]), [], []⟩)]
def tab174 : List (Nat × Tab) := [(12, ⟨8, (lin [] [0, 1, 2, 3, 4, 5, 6, 7]), [], []⟩)]
def tab175 : List (Nat × Tab) := [(3, ⟨4, (lin [3] [0, 1, 2, 3]), [3], []⟩)]
def tab177 : List (Nat × Tab) := [(12, ⟨12, (lin [] [0, 1, 2, 3, 4, 5, 6, 7, 8, 9, 10, 11]), [], []⟩), (20, ⟨9, (lin [7, 8] [0, 1, 2, 3, 4, 5, 6, 7, 8]), [], []⟩), (26, ⟨6, (lin [] [0, 1, 2, 3, 4, 5]), [], []⟩)]
def tab178 : List (Nat × Tab) := [(5, ⟨14, (lin [13] [0, 1, 2, 3, 4, 5, 6, 7, 8, 9, 10, 11, 12, 13]), [], []⟩)]
def tab179 : List (Nat × Tab) := [(15, ⟨17, (lin [14, 15] [0, 1, 2, 3, 4, 5, 6, 7, 8, 9, 10, 11, 12, 13, 14, 15, 16]), [15], []⟩), (16, ⟨11, (lin [10] [0, 1, 2, 3, 4, 5, 6, 7, 8, 9, 10]), [], []⟩)]
def tab180 : List (Nat × Tab) := [(6, ⟨35, (lin [6, 15] [0, 1, 2, 3, 4, 5, 6, 7, 8, 9, 10, 11, 12, 13, 14, 15, 16, 17, 18, 19, 20, 21, 22, 23, 24, 25, 26, 27, 28, 29, 30, 31, 32, 33, 34]), [], []⟩), (11, ⟨24, (lin [5] [0, 1, 2, 3, 4, 5, 6, 7, 8, 9, 10, 11, 12, 13, 14, 15, 16, 17, 18, 19, 20, 21, 22, 23]), [], []⟩), (16, ⟨12, (lin [] [0, 1, 2, 3, 4, 5, 6, 7, 8, 9, 10, 11]), [], []⟩)]
def tab182 : List (Nat × Tab) := [(21, ⟨12, (lin [] [0, 1, 2, 3, 4, 5, 6, 7, 8, 9, 10, 11]), [], []⟩), (23, ⟨11, (lin [6] [0, 1, 2, 3, 4, 5, 6, 7, 8, 9, 10]), [], []⟩)]
def tab186 : List (Nat × Tab) := [(14, ⟨7, (lin [] [0, 1, 2, 3, 4, 5, 6]), [], []⟩)]
def tab188 : List (Nat × Tab) := [(13, ⟨15, (lin [10] [0, 1, 2, 3, 4, 5, 6, 7, 8, 9, 10, 11, 12, 13, 14]), [], []⟩)]
def tab189 : List (Nat × Tab) := [(13, ⟨37, (lin [2] [0, 1, 2, 3, 4, 5, 6, 7, 8, 9, 10, 11, 12, 13, 14, 15, 16, 17, 18, 19, 20, 21, 22, 23, 24, 25, 26, 27, 28, 29, 30, 31, 32, 33, 34, 35, 36]), [], []⟩), (18, ⟨18, (lin [] [0, 1, 2, 3, 4, 5, 6, 7, 8, 9, 10, 11, 12, 13, 14, 15, 16, 17]), [], []⟩), (23, ⟨11, (lin [6] [0, 1, 2, 3, 4, 5, 6, 7, 8, 9, 10]), [], []⟩)]
def tab193 : List (Nat × Tab) := [(7, ⟨9, (lin [3] [0, 1, 2, 4, 5, 6, 7, 3, 8]), [], []⟩)]
def tab195 : List (Nat × Tab) := [(23, ⟨4, (lin [1] [0, 2, 3, 1]), [], []⟩)]
def tab201 : List (Nat × Tab) := [(2, ⟨3, (lin [] [0, 1, 2]), [], []⟩)]
def tab203 : List (Nat × Tab) := [(6, ⟨9, (lin [] [0, 1, 2, 3, 4, 5, 6, 7, 8]), [], []⟩)]
def tab211 : List (Nat × Tab) := [(4, ⟨12, (lin [] [0, 1, 2, 3, 4, 5, 6, 7, 8, 9, 10, 11]), [], []⟩), (6, ⟨10, (lin [] [0, 1, 2, 3, 4, 5, 6, 7, 8, 9]), [], []⟩)]
def tab217 : List (Nat × Tab) := [(1, ⟨10, (lin [] [0, 1, 2, 3, 4, 5, 6, 7, 8, 9]), [], []⟩)]
def tab219 : List (Nat × Tab) := [(10, ⟨7, (lin [4, 6] [0, 1, 2, 3, 4, 5, 6]), [], []⟩)]
def tab227 : List (Nat × Tab) := [(5, ⟨7, (lin [] [0, 1, 2, 3, 4, 5, 6]), [], []⟩)]
def tab231 : List (Nat × Tab) := [(6, ⟨6, (lin [] [0, 1, 2, 3, 4, 5]), [], []⟩), (8, ⟨11, (lin [] [0, 1, 2, 3, 4, 5, 6, 7, 8, 9, 10]), [], []⟩)]
def tab232 : List (Nat × Tab) := [(17, ⟨13, (lin [] [0, 1, 2, 3, 4, 5, 6, 7, 8, 9, 10, 11, 12]), [], []⟩)]
def tab235 : List (Nat × Tab) := [(17, ⟨13, (lin [] [0, 1, 2, 3, 4, 5, 6, 7, 8, 9, 10, 11, 12]), [], []⟩)]
def tab237 : List (Nat × Tab) := [(9, ⟨8, (lin [] [0, 1, 2, 3, 4, 5, 6, 7]), [], []⟩), (15, ⟨8, (lin [] [0, 1, 2, 3, 4, 5, 6, 7]), [], []⟩), (18, ⟨3, (lin [2] [0, 1, 2]), [2], []⟩)]
def tab238 : List (Nat × Tab) := [(1, ⟨8, (lin [5, 6, 7] [0, 1, 2, 3, 4, 5, 6, 7]), [], []⟩)]
def tab239 : List (Nat × Tab) := [(3, ⟨10, (lin [9] [0, 1, 2, 3, 4, 5, 6, 7, 8, 9]), [], []⟩)]
def tab253 : List (Nat × Tab) := [(13, ⟨6, (lin [4] [0, 1, 2, 3, 4, 5]), [], []⟩)]
def tab261 : List (Nat × Tab) := [(12, ⟨5, (lin [] [0, 1, 2, 3, 4]), [], []⟩)]
def tab262 : List (Nat × Tab) := [(7, ⟨4, (lin [3] [0, 1, 2, 3]), [3], []⟩)]
def tab263 : List (Nat × Tab) := [(8, ⟨6, (lin [4] [0, 1, 2, 3, 4, 5]), [], []⟩), (9, ⟨4, (lin [3] [0, 1, 2, 3]), [3], []⟩)]
def tab266 : List (Nat × Tab) := [(14, ⟨9, (lin [] [0, 1, 2, 3, 4, 5, 6, 7, 8]), [], []⟩)]
def tab269 : List (Nat × Tab) := [(2, ⟨19, (lin [] [0, 1, 2, 3, 4, 5, 6, 7, 8, 9, 10, 11, 12, 13, 14, 15, 16, 17, 18]), [], []⟩)]
def tab271 : List (Nat × Tab) := [(3, ⟨5, (lin [3, 4] [0, 1, 2, 3, 4]), [], []⟩), (10, ⟨6, (lin [4, 5] [0, 1, 2, 3, 4, 5]), [4], []⟩), (12, ⟨6, (lin [4, 5] [0, 1, 2, 3, 4, 5]), [], []⟩)]
def tab273 : List (Nat × Tab) := [(6, ⟨15, (lin [] [0, 1, 2, 3, 4, 5, 6, 7, 8, 9, 10, 11, 12, 13, 14]), [], []⟩)]
def tab275 : List (Nat × Tab) := [(10, ⟨10, (lin [] [0, 1, 2, 3, 4, 5, 6, 7, 8, 9]), [], []⟩), (14, ⟨10, (lin [] [0, 1, 2, 3, 4, 5, 6, 7, 8, 9]), [], []⟩), (24, ⟨11, (lin [9, 10] [0, 1, 2, 3, 4, 5, 6, 7, 8, 9, 10]), [], []⟩)]
def tab276 : List (Nat × Tab) := [(6, ⟨12, (lin [] [0, 1, 2, 3, 4, 5, 6, 7, 8, 9, 10, 11]), [], []⟩)]
def tab277 : List (Nat × Tab) := [(5, ⟨9, (lin [8] [0, 1, 2, 3, 4, 5, 6, 7, 8]), [], []⟩)]
def tab278 : List (Nat × Tab) := [(10, ⟨16, (lin [15] [0, 1, 2, 3, 4, 5, 6, 7, 8, 9, 10, 11, 12, 13, 14, 15]), [], []⟩)]
def tab279 : List (Nat × Tab) := [(6, ⟨14, (lin [12, 13] [0, 1, 2, 3, 4, 5, 6, 7, 8, 9, 10, 11, 12, 13]), [13], []⟩), (8, ⟨18, (lin [] [0, 1, 2, 3, 4, 5, 6, 7, 8, 9, 10, 11, 12, 13, 14, 15, 16, 17]), [], []⟩), (11, ⟨15, (lin [12, 13] [0, 1, 2, 3, 4, 5, 6, 7, 8, 9, 10, 11, 14, 12, 13]), [], []⟩), (17, ⟨18, (lin [] [0, 1, 2, 3, 4, 5, 6, 7, 8, 9, 10, 11, 12, 13, 14, 15, 16, 17]), [], []⟩), (20, ⟨13, (lin [9, 10, 11] [0, 1, 2, 3, 4, 5, 6, 7, 8, 12, 9, 10, 11]), [], []⟩)]
def tab280 : List (Nat × Tab) := [(15, ⟨7, (lin [5] [0, 1, 2, 3, 4, 5, 6]), [5], []⟩)]
def tab281 : List (Nat × Tab) := [(3, ⟨20, (lin [10, 13, 16, 19] [0, 1, 2, 3, 4, 5, 6, 7, 8, 9, 10, 11, 12, 13, 14, 15, 16, 17, 18, 19]), [19, 16, 13, 10], []⟩), (7, ⟨15, (lin [13, 14] [0, 1, 2, 3, 4, 5, 6, 7, 8, 9, 10, 11, 12, 13, 14]), [], []⟩), (10, ⟨10, (lin [9] [0, 1, 2, 3, 4, 5, 6, 7, 8, 9]), [9], []⟩), (11, ⟨6, (lin [5] [0, 1, 2, 3, 4, 5]), [5], []⟩)]
def tab290 : List (Nat × Tab) := [(6, ⟨7, (lin [] [0, 1, 2, 3, 4, 5, 6]), [], []⟩), (13, ⟨7, (lin [] [0, 1, 2, 3, 4, 5, 6]), [], []⟩)]
def tab292 : List (Nat × Tab) := [(4, ⟨7, (lin [] [0, 1, 2, 3, 4, 5, 6]), [], []⟩)]
def tab303 : List (Nat × Tab) := [(1, ⟨12, (lin [10, 11] [0, 1, 2, 3, 4, 5, 6, 7, 8, 9, 10, 11]), [11], []⟩), (5, ⟨7, (lin [] [0, 1, 2, 3, 4, 5, 6]), [], []⟩)]
def tab307 : List (Nat × Tab) := [(4, ⟨5, (lin [] [0, 1, 2, 3, 4]), [], []⟩)]
def tab308 : List (Nat × Tab) := [(7, ⟨8, (lin [6, 7] [0, 1, 2, 3, 4, 5, 6, 7]), [7, 6], []⟩)]
def tab317 : List (Nat × Tab) := [(4, ⟨7, (lin [2, 5, 6] [0, 1, 3, 4, 2, 5, 6]), [], []⟩)]
def tab319 : List (Nat × Tab) := [(4, ⟨7, (lin [2, 5, 6] [0, 1, 3, 4, 2, 5, 6]), [], []⟩)]
def tab329 : List (Nat × Tab) := [(15, ⟨11, (.q 0 (.q 1 (.q 2 (.q 3 (.q 4 (.q 5 (.q 6 (.q 7 (.i2 8 (.i1 9 (.i1 10 .leaf)) 9 (.i1 8 (.i1 10 .leaf))))))))))), [10], [8, 9]⟩)]
def tab332 : List (Nat × Tab) := [(9, ⟨10, (lin [] [0, 1, 2, 3, 4, 5, 6, 7, 8, 9]), [], []⟩), (21, ⟨10, (lin [] [0, 1, 2, 3, 4, 5, 6, 7, 8, 9]), [], []⟩), (24, ⟨9, (lin [] [0, 1, 2, 3, 4, 5, 6, 7, 8]), [], []⟩)]
def tab334 : List (Nat × Tab) := [(4, ⟨14, (lin [] [0, 1, 2, 3, 4, 5, 6, 7, 8, 9, 10, 11, 12, 13]), [], []⟩), (6, ⟨16, (lin [15] [0, 1, 2, 3, 4, 5, 6, 7, 8, 9, 10, 11, 12, 13, 14, 15]), [15], []⟩)]
def tab335 : List (Nat × Tab) := [(10, ⟨18, (lin [17] [0, 1, 2, 3, 4, 5, 6, 7, 8, 9, 10, 11, 12, 13, 14, 15, 16, 17]), [17], []⟩)]
def tab336 : List (Nat × Tab) := [(10, ⟨18, (lin [17] [0, 1, 2, 3, 4, 5, 6, 7, 8, 9, 10, 11, 12, 13, 14, 15, 16, 17]), [17], []⟩)]
def tab338 : List (Nat × Tab) := [(3, ⟨14, (lin [13] [0, 1, 2, 3, 4, 5, 6, 7, 8, 9, 10, 11, 12, 13]), [13], []⟩)]
def tab339 : List (Nat × Tab) := [(5, ⟨14, (lin [] [0, 1, 2, 3, 4, 5, 6, 7, 8, 9, 10, 11, 12, 13]), [], []⟩), (11, ⟨16, (lin [15] [0, 1, 2, 3, 4, 5, 6, 7, 8, 9, 10, 11, 12, 13, 14, 15]), [15], []⟩), (16, ⟨10, (lin [] [0, 1, 2, 3, 4, 5, 6, 7, 8, 9]), [], []⟩), (17, ⟨16, (lin [15] [0, 1, 2, 3, 4, 5, 6, 7, 8, 9, 10, 11, 12, 13, 14, 15]), [15], []⟩), (22, ⟨10, (lin [] [0, 1, 2, 3, 4, 5, 6, 7, 8, 9]), [], []⟩), (23, ⟨16, (lin [15] [0, 1, 2, 3, 4, 5, 6, 7, 8, 9, 10, 11, 12, 13, 14, 15]), [15], []⟩)]
def tab340 : List (Nat × Tab) := [(1, ⟨14, (lin [13] [0, 1, 2, 3, 4, 5, 6, 7, 8, 9, 10, 11, 12, 13]), [13], []⟩), (3, ⟨13, (lin [] [0, 1, 2, 3, 4, 5, 6, 7, 8, 9, 10, 11, 12]), [], []⟩), (5, ⟨13, (lin [] [0, 1, 2, 3, 4, 5, 6, 7, 8, 9, 10, 11, 12]), [], []⟩), (8, ⟨14, (lin [13] [0, 1, 2, 3, 4, 5, 6, 7, 8, 9, 10, 11, 12, 13]), [13], []⟩)]
def tab341 : List (Nat × Tab) := [(1, ⟨14, (lin [13] [0, 1, 2, 3, 4, 5, 6, 7, 8, 9, 10, 11, 12, 13]), [13], []⟩), (3, ⟨13, (lin [] [0, 1, 2, 3, 4, 5, 6, 7, 8, 9, 10, 11, 12]), [], []⟩), (5, ⟨13, (lin [] [0, 1, 2, 3, 4, 5, 6, 7, 8, 9, 10, 11, 12]), [], []⟩), (8, ⟨14, (lin [13] [0, 1, 2, 3, 4, 5, 6, 7, 8, 9, 10, 11, 12, 13]), [13], []⟩), (10, ⟨14, (lin [13] [0, 1, 2, 3, 4, 5, 6, 7, 8, 9, 10, 11, 12, 13]), [13], []⟩), (13, ⟨13, (lin [] [0, 1, 2, 3, 4, 5, 6, 7, 8, 9, 10, 11, 12]), [], []⟩), (15, ⟨13, (lin [] [0, 1, 2, 3, 4, 5, 6, 7, 8, 9, 10, 11, 12]), [], []⟩), (18, ⟨14, (lin [13] [0, 1, 2, 3, 4, 5, 6, 7, 8, 9, 10, 11, 12, 13]), [13], []⟩), (21, ⟨14, (lin [13] [0, 1, 2, 3, 4, 5, 6, 7, 8, 9, 10, 11, 12, 13]), [13], []⟩)]
def tab345 : List (Nat × Tab) := [(4, ⟨14, (lin [] [0, 1, 2, 3, 4, 5, 6, 7, 8, 9, 10, 11, 12, 13]), [], []⟩), (6, ⟨16, (lin [15] [0, 1, 2, 3, 4, 5, 6, 7, 8, 9, 10, 11, 12, 13, 14, 15]), [15], []⟩)]
def tab346 : List (Nat × Tab) := [(10, ⟨18, (lin [17] [0, 1, 2, 3, 4, 5, 6, 7, 8, 9, 10, 11, 12, 13, 14, 15, 16, 17]), [17], []⟩)]
def tab347 : List (Nat × Tab) := [(10, ⟨18, (lin [17] [0, 1, 2, 3, 4, 5, 6, 7, 8, 9, 10, 11, 12, 13, 14, 15, 16, 17]), [17], []⟩)]
def tab349 : List (Nat × Tab) := [(3, ⟨14, (lin [13] [0, 1, 2, 3, 4, 5, 6, 7, 8, 9, 10, 11, 12, 13]), [13], []⟩)]
def tab350 : List (Nat × Tab) := [(5, ⟨14, (lin [] [0, 1, 2, 3, 4, 5, 6, 7, 8, 9, 10, 11, 12, 13]), [], []⟩), (11, ⟨16, (lin [15] [0, 1, 2, 3, 4, 5, 6, 7, 8, 9, 10, 11, 12, 13, 14, 15]), [15], []⟩), (16, ⟨10, (lin [] [0, 1, 2, 3, 4, 5, 6, 7, 8, 9]), [], []⟩), (17, ⟨16, (lin [15] [0, 1, 2, 3, 4, 5, 6, 7, 8, 9, 10, 11, 12, 13, 14, 15]), [15], []⟩), (22, ⟨10, (lin [] [0, 1, 2, 3, 4, 5, 6, 7, 8, 9]), [], []⟩), (23, ⟨16, (lin [15] [0, 1, 2, 3, 4, 5, 6, 7, 8, 9, 10, 11, 12, 13, 14, 15]), [15], []⟩)]
def tab351 : List (Nat × Tab) := [(1, ⟨14, (lin [13] [0, 1, 2, 3, 4, 5, 6, 7, 8, 9, 10, 11, 12, 13]), [13], []⟩), (3, ⟨13, (lin [] [0, 1, 2, 3, 4, 5, 6, 7, 8, 9, 10, 11, 12]), [], []⟩), (5, ⟨13, (lin [] [0, 1, 2, 3, 4, 5, 6, 7, 8, 9, 10, 11, 12]), [], []⟩), (8, ⟨14, (lin [13] [0, 1, 2, 3, 4, 5, 6, 7, 8, 9, 10, 11, 12, 13]), [13], []⟩)]
def tab352 : List (Nat × Tab) := [(1, ⟨14, (lin [13] [0, 1, 2, 3, 4, 5, 6, 7, 8, 9, 10, 11, 12, 13]), [13], []⟩), (3, ⟨13, (lin [] [0, 1, 2, 3, 4, 5, 6, 7, 8, 9, 10, 11, 12]), [], []⟩), (5, ⟨13, (lin [] [0, 1, 2, 3, 4, 5, 6, 7, 8, 9, 10, 11, 12]), [], []⟩), (8, ⟨14, (lin [13] [0, 1, 2, 3, 4, 5, 6, 7, 8, 9, 10, 11, 12, 13]), [13], []⟩), (10, ⟨14, (lin [13] [0, 1, 2, 3, 4, 5, 6, 7, 8, 9, 10, 11, 12, 13]), [13], []⟩), (13, ⟨13, (lin [] [0, 1, 2, 3, 4, 5, 6, 7, 8, 9, 10, 11, 12]), [], []⟩), (15, ⟨13, (lin [] [0, 1, 2, 3, 4, 5, 6, 7, 8, 9, 10, 11, 12]), [], []⟩), (18, ⟨14, (lin [13] [0, 1, 2, 3, 4, 5, 6, 7, 8, 9, 10, 11, 12, 13]), [13], []⟩), (21, ⟨14, (lin [13] [0, 1, 2, 3, 4, 5, 6, 7, 8, 9, 10, 11, 12, 13]), [13], []⟩)]
def tab355 : List (Nat × Tab) := [(0, ⟨12, (lin [] [0, 1, 2, 3, 4, 5, 6, 7, 8, 9, 10, 11]), [], []⟩)]
def tab356 : List (Nat × Tab) := [(6, ⟨16, (lin [] [0, 1, 2, 3, 4, 5, 6, 7, 8, 9, 10, 11, 12, 13, 14, 15]), [], []⟩)]
def tab366 : List (Nat × Tab) := [(1, ⟨6, (lin [5] [0, 1, 2, 3, 4, 5]), [], []⟩), (4, ⟨5, (lin [] [0, 1, 2, 3, 4]), [], []⟩), (13, ⟨15, (.q 0 (.q 1 (.q 2 (.q 3 (.q 4 (.q 5 (.q 6 (.q 7 (.q 8 (.q 9 (.q 10 (.q 11 (.q 12 (.i2 13 (.i1 14 .leaf) 14 (.i1 13 .leaf))))))))))))))), [], [14]⟩), (18, ⟨10, (.q 0 (.q 1 (.q 2 (.q 3 (.q 4 (.q 5 (.q 6 (.q 7 (.i2 8 (.i1 9 .leaf) 9 (.i1 8 .leaf)))))))))), [], [9]⟩), (19, ⟨8, (lin [] [0, 1, 2, 3, 4, 5, 6, 7]), [], []⟩), (20, ⟨7, (lin [6] [0, 1, 2, 3, 4, 5, 6]), [], []⟩)]
def tab371 : List (Nat × Tab) := [(6, ⟨8, (lin [] [0, 1, 2, 3, 4, 5, 6, 7]), [], []⟩)]
def tab377 : List (Nat × Tab) := [(6, ⟨13, (lin [5] [0, 1, 2, 3, 4, 6, 7, 8, 9, 10, 11, 5, 12]), [], []⟩)]
def tab379 : List (Nat × Tab) := [(3, ⟨3, (lin [2] [0, 1, 2]), [2], []⟩), (13, ⟨5, (lin [2, 4] [0, 1, 3, 2, 4]), [4], []⟩)]
def tab382 : List (Nat × Tab) := [(5, ⟨8, (lin [] [0, 1, 2, 3, 4, 5, 6, 7]), [], []⟩)]
def tab388 : List (Nat × Tab) := [(3, ⟨6, (lin [] [0, 1, 2, 3, 4, 5]), [], []⟩), (4, ⟨13, (lin [] [0, 1, 2, 3, 4, 5, 6, 7, 8, 9, 10, 11, 12]), [], []⟩)]
def tab394 : List (Nat × Tab) := [(7, ⟨6, (lin [] [0, 1, 2, 3, 4, 5]), [], []⟩)]
def tab395 : List (Nat × Tab) := [(2, ⟨27, (lin [] [0, 1, 2, 3, 4, 5, 6, 7, 8, 9, 10, 11, 12, 13, 14, 15, 16, 17, 18, 19, 20, 21, 22, 23, 24, 25, 26]), [], []⟩)]
def tab398 : List (Nat × Tab) := [(3, ⟨9, (lin [] [0, 1, 2, 3, 4, 5, 6, 7, 8]), [], []⟩), (6, ⟨11, (lin [10] [0, 1, 2, 3, 4, 5, 6, 7, 8, 9, 10]), [], []⟩), (7, ⟨12, (lin [] [0, 1, 2, 3, 4, 5, 6, 7, 8, 9, 10, 11]), [], []⟩)]
def tab403 : List (Nat × Tab) := [(7, ⟨5, (lin [4] [0, 1, 2, 3, 4]), [4], []⟩), (10, ⟨5, (lin [4] [0, 1, 2, 3, 4]), [4], []⟩), (17, ⟨3, (lin [2] [0, 1, 2]), [2], []⟩), (21, ⟨6, (lin [5] [0, 1, 2, 3, 4, 5]), [5], []⟩)]
def tab410 : List (Nat × Tab) := [(3, ⟨8, (lin [] [0, 1, 2, 3, 4, 5, 6, 7]), [], []⟩)]
def tab414 : List (Nat × Tab) := [(14, ⟨13, (.q 0 (.q 1 (.q 2 (.q 3 (.q 4 (.q 5 (.q 6 (.q 7 (.q 8 (.q 9 (.q 10 (.i2 11 (.i1 12 .leaf) 12 (.i1 11 .leaf))))))))))))), [], [12]⟩), (20, ⟨10, (.q 0 (.q 1 (.q 2 (.q 3 (.q 4 (.q 5 (.q 6 (.q 7 (.i2 8 (.i1 9 .leaf) 9 (.i1 8 .leaf)))))))))), [], [9]⟩), (21, ⟨8, (lin [] [0, 1, 2, 3, 4, 5, 6, 7]), [], []⟩), (22, ⟨6, (lin [] [0, 1, 2, 3, 4, 5]), [], []⟩)]
def tab415 : List (Nat × Tab) := [(8, ⟨7, (lin [] [0, 1, 2, 3, 4, 5, 6]), [], []⟩)]
def tab418 : List (Nat × Tab) := [(6, ⟨8, (lin [] [0, 1, 2, 3, 4, 5, 6, 7]), [], []⟩)]
def tab422 : List (Nat × Tab) := [(3, ⟨12, (lin [4] [0, 1, 2, 3, 5, 6, 7, 8, 9, 11, 4, 10]), [], []⟩)]
def tab424 : List (Nat × Tab) := [(1, ⟨10, (lin [4] [0, 1, 2, 3, 5, 6, 7, 8, 9, 4]), [], []⟩)]
def tab429 : List (Nat × Tab) := [(3, ⟨16, (lin [15] [0, 1, 2, 3, 4, 5, 6, 7, 8, 9, 10, 11, 12, 13, 14, 15]), [], []⟩)]
def tab430 : List (Nat × Tab) := [(4, ⟨13, (lin [8] [0, 1, 2, 3, 4, 5, 6, 7, 9, 10, 11, 12, 8]), [], []⟩)]
def tab432 : List (Nat × Tab) := [(7, ⟨3, (lin [1, 2] [0, 1, 2]), [2, 1], []⟩)]
def tab433 : List (Nat × Tab) := [(1, ⟨14, (lin [12, 13] [0, 1, 2, 3, 4, 5, 6, 7, 8, 9, 10, 11, 12, 13]), [13], []⟩), (2, ⟨16, (lin [] [0, 1, 2, 3, 4, 5, 6, 7, 8, 9, 10, 11, 12, 13, 14, 15]), [], []⟩)]
def tab437 : List (Nat × Tab) := [(17, ⟨13, (lin [] [0, 1, 2, 3, 4, 5, 6, 7, 8, 9, 10, 11, 12]), [], []⟩)]
def tab440 : List (Nat × Tab) := [(17, ⟨7, (lin [2, 6] [0, 1, 4, 5, 2, 3, 6]), [], []⟩)]
def tab455 : List (Nat × Tab) := [(9, ⟨14, (lin [12, 13] [0, 1, 2, 3, 4, 5, 6, 7, 8, 9, 10, 11, 12, 13]), [13], []⟩)]
def tab458 : List (Nat × Tab) := [(3, ⟨19, (lin [] [0, 1, 2, 3, 4, 5, 6, 7, 8, 9, 10, 11, 12, 13, 14, 15, 16, 17, 18]), [], []⟩), (5, ⟨13, (lin [] [0, 1, 2, 3, 4, 5, 6, 7, 8, 9, 10, 11, 12]), [], []⟩), (6, ⟨22, (lin [21] [0, 1, 2, 3, 4, 5, 6, 7, 8, 9, 10, 11, 12, 13, 14, 15, 16, 17, 18, 19, 20, 21]), [21], []⟩)]
def tab460 : List (Nat × Tab) := [(1, ⟨7, (lin [] [0, 1, 2, 3, 4, 5, 6]), [], []⟩), (2, ⟨7, (lin [] [0, 1, 2, 3, 4, 5, 6]), [], []⟩), (3, ⟨7, (lin [] [0, 1, 2, 3, 4, 5, 6]), [], []⟩)]
def tab464 : List (Nat × Tab) := [(3, ⟨19, (lin [] [0, 1, 2, 3, 4, 5, 6, 7, 8, 9, 10, 11, 12, 13, 14, 15, 16, 17, 18]), [], []⟩), (5, ⟨13, (lin [] [0, 1, 2, 3, 4, 5, 6, 7, 8, 9, 10, 11, 12]), [], []⟩), (6, ⟨22, (lin [21] [0, 1, 2, 3, 4, 5, 6, 7, 8, 9, 10, 11, 12, 13, 14, 15, 16, 17, 18, 19, 20, 21]), [21], []⟩)]
def tab468 : List (Nat × Tab) := [(13, ⟨10, (lin [9] [0, 1, 2, 3, 4, 5, 6, 7, 8, 9]), [], []⟩), (6, ⟨7, (lin [3] [0, 1, 2, 4, 5, 6, 3]), [], []⟩)]
def tab470 : List (Nat × Tab) := [(7, ⟨14, (.q 0 (.q 1 (.q 2 (.q 3 (.q 4 (.q 5 (.q 6 (.q 7 (.i2 8 (.q 9 (.q 10 (.q 11 (.i1 12 (.q 13 .leaf))))) 12 (.i1 8 (.q 9 (.q 10 (.q 11 (.q 13 .leaf)))))))))))))), [], [12]⟩)]
def tab476 : List (Nat × Tab) := [(7, ⟨12, (lin [] [0, 1, 2, 3, 4, 5, 6, 7, 8, 9, 10, 11]), [], []⟩)]
def tab481 : List (Nat × Tab) := [(1, ⟨18, (.q 0 (.q 1 (.q 2 (.q 3 (.q 4 (.q 5 (.q 6 (.q 7 (.q 8 (.q 9 (.q 10 (.q 11 (.q 12 (.q 13 (.q 14 (.i2 15 (.i1 16 (.i1 17 .leaf)) 16 (.i1 15 (.i1 17 .leaf)))))))))))))))))), [17], [15, 16]⟩), (15, ⟨7, (lin [] [0, 1, 2, 3, 4, 5, 6]), [], []⟩)]
def tab488 : List (Nat × Tab) := [(5, ⟨30, (lin [] [0, 1, 2, 3, 4, 5, 6, 7, 8, 9, 10, 11, 12, 13, 14, 15, 16, 17, 18, 19, 20, 21, 22, 23, 24, 25, 26, 27, 28, 29]), [], []⟩), (9, ⟨9, (lin [] [0, 1, 2, 3, 4, 5, 6, 7, 8]), [], []⟩), (12, ⟨14, (lin [] [0, 1, 2, 3, 4, 5, 6, 7, 8, 9, 10, 11, 12, 13]), [], []⟩), (17, ⟨5, (lin [] [0, 1, 2, 3, 4]), [], []⟩), (18, ⟨29, (lin [3, 5, 8] [0, 1, 2, 4, 7, 11, 12, 13, 14, 15, 16, 17, 18, 19, 20, 22, 23, 24, 26, 27, 28, 3, 5, 6, 8, 9, 10, 21, 25]), [], []⟩), (19, ⟨23, (lin [1, 3, 6] [0, 2, 5, 8, 9, 10, 11, 12, 13, 14, 15, 16, 17, 18, 19, 20, 21, 22, 1, 3, 4, 6, 7]), [], []⟩), (24, ⟨8, (lin [] [0, 1, 2, 3, 4, 5, 6, 7]), [], []⟩)]
def tab497 : List (Nat × Tab) := [(8, ⟨8, (lin [] [0, 1, 2, 3, 4, 5, 6, 7]), [], []⟩)]
def tab507 : List (Nat × Tab) := [(12, ⟨12, (.q 0 (.q 1 (.q 2 (.q 3 (.q 4 (.q 6 (.q 7 (.q 8 (.q 9 (.i2 5 (.i1 10 (.i1 11 .leaf)) 10 (.i1 5 (.i1 11 .leaf)))))))))))), [], []⟩), (28, ⟨9, (lin [] [0, 1, 2, 3, 4, 5, 6, 7, 8]), [], []⟩), (32, ⟨13, (.q 0 (.q 1 (.q 2 (.q 3 (.q 4 (.q 5 (.q 6 (.i2 7 (.q 8 (.q 9 (.q 10 (.i1 11 (.q 12 .leaf))))) 11 (.i1 7 (.q 8 (.q 9 (.q 10 (.q 12 .leaf))))))))))))), [], [11]⟩)]
def tab509 : List (Nat × Tab) := [(7, ⟨10, (lin [] [0, 1, 2, 3, 4, 5, 6, 7, 8, 9]), [], []⟩), (16, ⟨14, (lin [12, 13] [0, 1, 2, 3, 4, 5, 6, 7, 8, 9, 10, 11, 12, 13]), [], []⟩), (22, ⟨10, (lin [] [0, 1, 2, 3, 4, 5, 6, 7, 8, 9]), [], []⟩), (34, ⟨10, (lin [] [0, 1, 2, 3, 4, 5, 6, 7, 8, 9]), [], []⟩), (38, ⟨10, (lin [] [0, 1, 2, 3, 4, 5, 6, 7, 8, 9]), [], []⟩), (41, ⟨10, (lin [] [0, 1, 2, 3, 4, 5, 6, 7, 8, 9]), [], []⟩)]
def tab514 : List (Nat × Tab) := [(6, ⟨12, (lin [] [0, 1, 2, 3, 4, 5, 6, 7, 8, 9, 10, 11]), [], []⟩), (11, ⟨10, (lin [] [0, 1, 2, 3, 4, 5, 6, 7, 8, 9]), [], []⟩)]
def tab519 : List (Nat × Tab) := [(16, ⟨8, (lin [] [0, 1, 2, 3, 4, 5, 6, 7]), [], []⟩), (19, ⟨13, (lin [] [0, 1, 2, 3, 4, 5, 6, 7, 8, 9, 10, 11, 12]), [], []⟩), (22, ⟨13, (lin [] [0, 1, 2, 3, 4, 5, 6, 7, 8, 9, 10, 11, 12]), [], []⟩), (25, ⟨18, (lin [] [0, 1, 2, 3, 4, 5, 6, 7, 8, 9, 10, 11, 12, 13, 14, 15, 16, 17]), [], []⟩), (30, ⟨26, (lin [] [0, 1, 2, 3, 4, 5, 6, 7, 8, 9, 10, 11, 12, 13, 14, 15, 16, 17, 18, 19, 20, 21, 22, 23, 24, 25]), [], []⟩)]
def tab526 : List (Nat × Tab) := [(0, ⟨14, (lin [4, 8] [0, 1, 2, 3, 6, 9, 10, 11, 12, 13, 4, 5, 7, 8]), [], []⟩)]
def tab528 : List (Nat × Tab) := [(6, ⟨30, (lin [] [0, 1, 2, 3, 4, 5, 6, 7, 8, 9, 10, 11, 12, 13, 14, 15, 16, 17, 18, 19, 20, 21, 22, 23, 24, 25, 26, 27, 28, 29]), [], []⟩), (11, ⟨9, (lin [] [0, 1, 2, 3, 4, 5, 6, 7, 8]), [], []⟩), (14, ⟨14, (lin [] [0, 1, 2, 3, 4, 5, 6, 7, 8, 9, 10, 11, 12, 13]), [], []⟩), (19, ⟨5, (lin [] [0, 1, 2, 3, 4]), [], []⟩), (21, ⟨22, (lin [] [0, 1, 2, 3, 4, 5, 6, 7, 8, 9, 10, 11, 12, 13, 14, 15, 16, 17, 18, 19, 20, 21]), [], []⟩), (29, ⟨6, (lin [] [0, 1, 2, 3, 4, 5]), [], []⟩)]
def tab531 : List (Nat × Tab) := [(3, ⟨10, (lin [] [0, 1, 2, 3, 4, 5, 6, 7, 8, 9]), [], []⟩)]
def tab532 : List (Nat × Tab) := [(4, ⟨14, (lin [] [0, 1, 2, 3, 4, 5, 6, 7, 8, 9, 10, 11, 12, 13]), [], []⟩), (6, ⟨16, (lin [15] [0, 1, 2, 3, 4, 5, 6, 7, 8, 9, 10, 11, 12, 13, 14, 15]), [15], []⟩)]
def tab533 : List (Nat × Tab) := [(10, ⟨18, (lin [17] [0, 1, 2, 3, 4, 5, 6, 7, 8, 9, 10, 11, 12, 13, 14, 15, 16, 17]), [17], []⟩)]
def tab534 : List (Nat × Tab) := [(10, ⟨18, (lin [17] [0, 1, 2, 3, 4, 5, 6, 7, 8, 9, 10, 11, 12, 13, 14, 15, 16, 17]), [17], []⟩)]
def tab536 : List (Nat × Tab) := [(3, ⟨14, (lin [13] [0, 1, 2, 3, 4, 5, 6, 7, 8, 9, 10, 11, 12, 13]), [13], []⟩)]
def tab537 : List (Nat × Tab) := [(5, ⟨14, (lin [] [0, 1, 2, 3, 4, 5, 6, 7, 8, 9, 10, 11, 12, 13]), [], []⟩), (11, ⟨16, (lin [15] [0, 1, 2, 3, 4, 5, 6, 7, 8, 9, 10, 11, 12, 13, 14, 15]), [15], []⟩), (16, ⟨10, (lin [] [0, 1, 2, 3, 4, 5, 6, 7, 8, 9]), [], []⟩), (17, ⟨16, (lin [15] [0, 1, 2, 3, 4, 5, 6, 7, 8, 9, 10, 11, 12, 13, 14, 15]), [15], []⟩), (22, ⟨10, (lin [] [0, 1, 2, 3, 4, 5, 6, 7, 8, 9]), [], []⟩), (23, ⟨16, (lin [15] [0, 1, 2, 3, 4, 5, 6, 7, 8, 9, 10, 11, 12, 13, 14, 15]), [15], []⟩)]
def tab538 : List (Nat × Tab) := [(1, ⟨14, (lin [13] [0, 1, 2, 3, 4, 5, 6, 7, 8, 9, 10, 11, 12, 13]), [13], []⟩), (3, ⟨13, (lin [] [0, 1, 2, 3, 4, 5, 6, 7, 8, 9, 10, 11, 12]), [], []⟩), (5, ⟨13, (lin [] [0, 1, 2, 3, 4, 5, 6, 7, 8, 9, 10, 11, 12]), [], []⟩), (8, ⟨14, (lin [13] [0, 1, 2, 3, 4, 5, 6, 7, 8, 9, 10, 11, 12, 13]), [13], []⟩)]
def tab539 : List (Nat × Tab) := [(1, ⟨14, (lin [13] [0, 1, 2, 3, 4, 5, 6, 7, 8, 9, 10, 11, 12, 13]), [13], []⟩), (3, ⟨13, (lin [] [0, 1, 2, 3, 4, 5, 6, 7, 8, 9, 10, 11, 12]), [], []⟩), (5, ⟨13, (lin [] [0, 1, 2, 3, 4, 5, 6, 7, 8, 9, 10, 11, 12]), [], []⟩), (8, ⟨14, (lin [13] [0, 1, 2, 3, 4, 5, 6, 7, 8, 9, 10, 11, 12, 13]), [13], []⟩), (10, ⟨14, (lin [13] [0, 1, 2, 3, 4, 5, 6, 7, 8, 9, 10, 11, 12, 13]), [13], []⟩), (13, ⟨13, (lin [] [0, 1, 2, 3, 4, 5, 6, 7, 8, 9, 10, 11, 12]), [], []⟩), (15, ⟨13, (lin [] [0, 1, 2, 3, 4, 5, 6, 7, 8, 9, 10, 11, 12]), [], []⟩), (18, ⟨14, (lin [13] [0, 1, 2, 3, 4, 5, 6, 7, 8, 9, 10, 11, 12, 13]), [13], []⟩), (21, ⟨14, (lin [13] [0, 1, 2, 3, 4, 5, 6, 7, 8, 9, 10, 11, 12, 13]), [13], []⟩)]
def tab555 : List (Nat × Tab) := [(1, ⟨14, (.q 0 (.q 1 (.q 2 (.q 3 (.q 4 (.q 5 (.q 6 (.q 7 (.i2 8 (.q 9 (.q 10 (.q 11 (.i1 12 (.i1 13 .leaf))))) 12 (.i1 8 (.q 9 (.q 10 (.q 11 (.i1 13 .leaf)))))))))))))), [13], [12]⟩), (9, ⟨9, (lin [3] [0, 1, 2, 4, 5, 6, 7, 8, 3]), [], []⟩)]
def tab557 : List (Nat × Tab) := [(1, ⟨9, (lin [] [0, 1, 2, 3, 4, 5, 6, 7, 8]), [], []⟩)]
def tab559 : List (Nat × Tab) := [(1, ⟨9, (lin [] [0, 1, 2, 3, 4, 5, 6, 7, 8]), [], []⟩)]
def tab560 : List (Nat × Tab) := [(1, ⟨13, (lin [] [0, 1, 2, 3, 4, 5, 6, 7, 8, 9, 10, 11, 12]), [], []⟩), (4, ⟨9, (lin [] [0, 1, 2, 3, 4, 5, 6, 7, 8]), [], []⟩), (5, ⟨15, (lin [13, 14] [0, 1, 2, 3, 4, 5, 6, 7, 8, 9, 10, 11, 12, 13, 14]), [], []⟩)]
def tab561 : List (Nat × Tab) := [(2, ⟨5, (lin [] [0, 1, 2, 3, 4]), [], []⟩)]
def tab565 : List (Nat × Tab) := [(7, ⟨17, (lin [11, 15, 16] [0, 1, 2, 3, 4, 5, 6, 7, 8, 9, 10, 12, 13, 11, 14, 15, 16]), [], []⟩), (8, ⟨3, (lin [] [0, 1, 2]), [], []⟩)]
def tab569 : List (Nat × Tab) := [(0, ⟨12, (lin [] [0, 1, 2, 3, 4, 5, 6, 7, 8, 9, 10, 11]), [], []⟩)]
def tab570 : List (Nat × Tab) := [(6, ⟨16, (lin [13] [0, 1, 2, 3, 4, 5, 6, 7, 8, 9, 10, 11, 12, 13, 14, 15]), [], []⟩), (10, ⟨28, (lin [25] [0, 1, 2, 3, 4, 5, 6, 7, 8, 9, 10, 11, 12, 13, 14, 15, 16, 17, 18, 19, 20, 21, 22, 23, 24, 25, 26, 27]), [], []⟩), (12, ⟨28, (lin [25] [0, 1, 2, 3, 4, 5, 6, 7, 8, 9, 10, 11, 12, 13, 14, 15, 16, 17, 18, 19, 20, 21, 22, 23, 24, 25, 26, 27]), [], []⟩)]
def tab571 : List (Nat × Tab) := [(5, ⟨8, (lin [] [0, 1, 2, 3, 4, 5, 6, 7]), [], []⟩)]
def tab572 : List (Nat × Tab) := [(28, ⟨13, (lin [] [0, 1, 2, 3, 4, 5, 6, 7, 8, 9, 10, 11, 12]), [], []⟩), (29, ⟨13, (lin [] [0, 1, 2, 3, 4, 5, 6, 7, 8, 9, 10, 11, 12]), [], []⟩), (31, ⟨6, (lin [] [0, 1, 2, 3, 4, 5]), [], []⟩)]
def tab575 : List (Nat × Tab) := [(20, ⟨11, (lin [4, 10] [0, 1, 2, 3, 6, 7, 8, 9, 4, 5, 10]), [], []⟩)]
def tab579 : List (Nat × Tab) := [(11, ⟨6, (lin [5] [0, 1, 3, 4, 2, 5]), [], []⟩)]
def tab585 : List (Nat × Tab) := [(16, ⟨6, (lin [] [0, 1, 2, 3, 4, 5]), [], []⟩)]
def tab590 : List (Nat × Tab) := [(4, ⟨3, (lin [] [0, 1, 2]), [], []⟩)]
def tab591 : List (Nat × Tab) := [(9, ⟨13, (lin [11, 12] [0, 1, 2, 3, 4, 5, 6, 7, 8, 9, 10, 11, 12]), [12], []⟩), (11, ⟨4, (lin [] [0, 1, 2, 3]), [], []⟩), (21, ⟨2, (lin [] [0, 1]), [], []⟩), (25, ⟨8, (lin [] [0, 1, 2, 3, 4, 5, 6, 7]), [], []⟩)]
def tab592 : List (Nat × Tab) := [(9, ⟨10, (lin [] [0, 1, 2, 3, 4, 5, 6, 7, 8, 9]), [], []⟩)]
def tab593 : List (Nat × Tab) := [(14, ⟨11, (lin [] [0, 1, 2, 3, 4, 5, 6, 7, 8, 9, 10]), [], []⟩)]
def tab594 : List (Nat × Tab) := [(5, ⟨8, (lin [] [0, 1, 2, 3, 4, 5, 6, 7]), [], []⟩)]
def tab595 : List (Nat × Tab) := [(6, ⟨8, (lin [] [0, 1, 2, 3, 4, 5, 6, 7]), [], []⟩)]
def tab605 : List (Nat × Tab) := [(1, ⟨14, (lin [12, 13] [0, 1, 2, 3, 4, 5, 6, 7, 8, 9, 10, 11, 12, 13]), [13], []⟩), (5, ⟨11, (lin [10] [0, 1, 2, 3, 4, 5, 6, 7, 8, 9, 10]), [10], []⟩)]
def tab606 : List (Nat × Tab) := [(3, ⟨19, (lin [] [0, 1, 2, 3, 4, 5, 6, 7, 8, 9, 10, 11, 12, 13, 14, 15, 16, 17, 18]), [], []⟩), (5, ⟨13, (lin [] [0, 1, 2, 3, 4, 5, 6, 7, 8, 9, 10, 11, 12]), [], []⟩), (6, ⟨22, (lin [21] [0, 1, 2, 3, 4, 5, 6, 7, 8, 9, 10, 11, 12, 13, 14, 15, 16, 17, 18, 19, 20, 21]), [21], []⟩)]
def tab633 : List (Nat × Tab) := [(1, ⟨13, (.q 0 (.q 1 (.q 2 (.q 3 (.q 4 (.q 5 (.q 6 (.i2 7 (.q 8 (.q 9 (.q 10 (.i1 11 (.i1 12 .leaf))))) 11 (.i1 7 (.q 8 (.q 9 (.q 10 (.i1 12 .leaf))))))))))))), [12], [11]⟩), (3, ⟨4, (lin [] [0, 1, 2, 3]), [], []⟩), (5, ⟨4, (lin [] [0, 1, 2, 3]), [], []⟩), (11, ⟨2, (lin [] [0, 1]), [], []⟩), (13, ⟨8, (lin [] [0, 1, 2, 3, 4, 5, 6, 7]), [], []⟩)]
def tab635 : List (Nat × Tab) := [(4, ⟨9, (lin [] [0, 1, 2, 3, 4, 5, 6, 7, 8]), [], []⟩), (6, ⟨9, (lin [7, 8] [0, 1, 2, 3, 4, 5, 6, 7, 8]), [], []⟩)]
def tab638 : List (Nat × Tab) := [(11, ⟨10, (lin [] [0, 1, 2, 3, 4, 5, 6, 7, 8, 9]), [], []⟩), (15, ⟨10, (lin [] [0, 1, 2, 3, 4, 5, 6, 7, 8, 9]), [], []⟩)]
def tab639 : List (Nat × Tab) := [(16, ⟨23, (lin [] [0, 1, 2, 3, 4, 5, 6, 7, 8, 9, 10, 11, 12, 13, 14, 15, 16, 17, 18, 19, 20, 21, 22]), [], []⟩), (17, ⟨3, (lin [] [0, 1, 2]), [], []⟩), (18, ⟨17, (lin [11, 15, 16] [0, 1, 2, 3, 4, 5, 6, 7, 8, 9, 10, 12, 13, 11, 14, 15, 16]), [], []⟩), (19, ⟨9, (lin [] [0, 1, 2, 3, 4, 5, 6, 7, 8]), [], []⟩)]
def tab644 : List (Nat × Tab) := [(1, ⟨9, (lin [] [0, 1, 2, 3, 4, 5, 6, 7, 8]), [], []⟩)]
def tab657 : List (Nat × Tab) := [(1, ⟨4, (lin [2] [0, 1, 3, 2]), [], []⟩)]
def tab658 : List (Nat × Tab) := [(1, ⟨4, (lin [2] [0, 1, 3, 2]), [], []⟩)]
def tab663 : List (Nat × Tab) := [(7, ⟨13, (lin [12] [0, 1, 2, 3, 4, 5, 6, 7, 8, 9, 10, 11, 12]), [12], []⟩), (8, ⟨13, (lin [12] [0, 1, 2, 3, 4, 5, 6, 7, 8, 9, 10, 11, 12]), [12], []⟩), (9, ⟨13, (lin [12] [0, 1, 2, 3, 4, 5, 6, 7, 8, 9, 10, 11, 12]), [12], []⟩), (10, ⟨13, (lin [12] [0, 1, 2, 3, 4, 5, 6, 7, 8, 9, 10, 11, 12]), [12], []⟩), (17, ⟨13, (lin [12] [0, 1, 2, 3, 4, 5, 6, 7, 8, 9, 10, 11, 12]), [12], []⟩), (18, ⟨13, (lin [12] [0, 1, 2, 3, 4, 5, 6, 7, 8, 9, 10, 11, 12]), [12], []⟩), (23, ⟨13, (lin [12] [0, 1, 2, 3, 4, 5, 6, 7, 8, 9, 10, 11, 12]), [12], []⟩)]
def tab665 : List (Nat × Tab) := [(4, ⟨8, (lin [] [0, 1, 2, 3, 4, 5, 6, 7]), [], []⟩)]
def tabL : List (Nat × List (Nat × Tab)) := [(8, tab8), (11, tab11), (12, tab12), (19, tab19), (20, tab20), (25, tab25), (26, tab26), (27, tab27), (28, tab28), (38, tab38), (40, tab40), (43, tab43), (48, tab48), (49, tab49), (50, tab50), (51, tab51), (61, tab61), (62, tab62), (63, tab63), (64, tab64), (65, tab65), (66, tab66), (68, tab68), (69, tab69), (71, tab71), (72, tab72), (74, tab74), (75, tab75), (77, tab77), (80, tab80), (85, tab85), (86, tab86), (88, tab88), (89, tab89), (90, tab90), (95, tab95), (96, tab96), (97, tab97), (98, tab98), (101, tab101), (102, tab102), (104, tab104), (105, tab105), (106, tab106), (107, tab107), (109, tab109), (111, tab111), (115, tab115), (116, tab116), (117, tab117), (120, tab120), (130, tab130), (133, tab133), (137, tab137), (138, tab138), (141, tab141), (148, tab148), (153, tab153), (154, tab154), (159, tab159), (162, tab162), (164, tab164), (171, tab171), (173, tab173), (174, tab174), (175, tab175), (177, tab177), (178, tab178), (179, tab179), (180, tab180), (182, tab182), (186, tab186), (188, tab188), (189, tab189), (193, tab193), (195, tab195), (201, tab201), (203, tab203), (211, tab211), (217, tab217), (219, tab219), (227, tab227), (231, tab231), (232, tab232), (235, tab235), (237, tab237), (238, tab238), (239, tab239), (253, tab253), (261, tab261), (262, tab262), (263, tab263), (266, tab266), (269, tab269), (271, tab271), (273, tab273), (275, tab275), (276, tab276), (277, tab277), (278, tab278), (279, tab279), (280, tab280), (281, tab281), (290, tab290), (292, tab292), (303, tab303), (307, tab307), (308, tab308), (317, tab317), (319, tab319), (329, tab329), (332, tab332), (334, tab334), (335, tab335), (336, tab336), (338, tab338), (339, tab339), (340, tab340), (341, tab341), (345, tab345), (346, tab346), (347, tab347), (349, tab349), (350, tab350), (351, tab351), (352, tab352), (355, tab355), (356, tab356), (366, tab366), (371, tab371), (377, tab377), (379, tab379), (382, tab382), (388, tab388), (394, tab394), (395, tab395), (398, tab398), (403, tab403), (410, tab410), (414, tab414), (415, tab415), (418, tab418), (422, tab422), (424, tab424), (429, tab429), (430, tab430), (432, tab432), (433, tab433), (437, tab437), (440, tab440), (455, tab455), (458, tab458), (460, tab460), (464, tab464), (468, tab468), (470, tab470), (476, tab476), (481, tab481), (488, tab488), (497, tab497), (507, tab507), (509, tab509), (514, tab514), (519, tab519), (526, tab526), (528, tab528), (531, tab531), (532, tab532), (533, tab533), (534, tab534), (536, tab536), (537, tab537), (538, tab538), (539, tab539), (555, tab555), (557, tab557), (559, tab559), (560, tab560), (561, tab561), (565, tab565), (569, tab569), (570, tab570), (571, tab571), (572, tab572), (575, tab575), (579, tab579), (585, tab585), (590, tab590), (591, tab591), (592, tab592), (593, tab593), (594, tab594), (595, tab595), (605, tab605), (606, tab606), (633, tab633), (635, tab635), (638, tab638), (639, tab639), (644, tab644), (657, tab657), (658, tab658), (663, tab663), (665, tab665)]
def lookL {α : Type} : List (Nat × α) → Nat → Option α
  | [], _ => none
  | (k, v) :: r, n => if k = n then some v else lookL r n
end Go.Proofs.YtdielfpgekenkaaGreatDoor.Sx
namespace Go.Proofs.YtdielfpgekenkaaGreatDoor.Sx
open Go Vm
set_option linter.unusedSimpArgs false
set_option linter.unusedVariables false
def evens {α : Type} : List α → List α
  | [] => []
  | [x] => [x]
  | x :: _ :: r => x :: evens r
def odds {α : Type} : List α → List α
  | [] => []
  | _ :: r => evens r
def ofList {α : Type} : Nat → List α → Tr α
  | 0, _ => .nil
  | _ + 1, [] => .nil
  | g + 1, x :: r => .node (ofList g (evens r)) (some x) (ofList g (odds r))
theorem evens_get {α : Type} : ∀ (l : List α) (k : Nat), (evens l)[k]? = l[2 * k]?
  | [], k => by simp [evens]
  | [x], k => by cases k with
    | zero => rfl
    | succ k => simp [evens]
  | x :: y :: r, k => by cases k with
    | zero => rfl
    | succ k =>
      have : 2 * (k + 1) = 2 * k + 1 + 1 := by omega
      rw [this]
      simp only [evens, List.getElem?_cons_succ]
      exact evens_get r k
theorem odds_get {α : Type} (l : List α) (k : Nat) : (odds l)[k]? = l[2 * k + 1]? := by
  cases l with
  | nil => simp [odds]
  | cons x r => simp only [odds, List.getElem?_cons_succ]; exact evens_get r k
theorem evens_len {α : Type} : ∀ (l : List α), (evens l).length = (l.length + 1) / 2
  | [] => by simp [evens]
  | [x] => by simp [evens]
  | x :: y :: r => by simp only [evens, List.length_cons, evens_len r]; omega
theorem odds_len {α : Type} (l : List α) : (odds l).length = l.length / 2 := by
  cases l with
  | nil => simp [odds]
  | cons x r => simp only [odds, evens_len, List.length_cons]
theorem ofList_get {α : Type} : ∀ (g : Nat) (l : List α), l.length < 2 ^ g → ∀ i, (ofList g l).get i = l[i]?
  | 0, l, h, i => by
    have : l = [] := List.eq_nil_of_length_eq_zero (by omega)
    subst this; simp [ofList, get_nil, get_zero]
  | g + 1, [], h, i => by simp [ofList, get_nil, get_zero]
  | g + 1, x :: r, h, i => by
    have h1 : (evens r).length < 2 ^ g := by rw [evens_len]; simp only [List.length_cons, Nat.pow_succ] at h; omega
    have h2 : (odds r).length < 2 ^ g := by rw [odds_len]; simp only [List.length_cons, Nat.pow_succ] at h; omega
    unfold ofList
    cases i with
    | zero => simp [get_nil, get_zero]
    | succ i =>
      rw [get_succ]
      simp only [List.getElem?_cons_succ]
      split
      · rw [ofList_get g _ h1, evens_get]; congr 1; omega
      · rw [ofList_get g _ h2, odds_get]; congr 1; omega
end Go.Proofs.YtdielfpgekenkaaGreatDoor.Sx
namespace Go.Proofs.YtdielfpgekenkaaGreatDoor.Sx
open Go Vm
def dfrL (f : Nat) : Bool := f == 135 || f == 226 || f == 238 || f == 308
noncomputable def hooks (f : Nat) : Option (List SV → St → Option (SV × St)) := if f = 198 then some hOf else if f = 134 then some hTag else if f = 264 then some hROf else if f = 393 then some hRTag else if f = 528 then some hSha else if f = 310 then some (hColl 1048576) else none
def tabOf (f id : Nat) : Option Tab := (lookL tabL f).bind fun l => lookL l id
noncomputable def cx : Cx where
  P := Tryz.prog
  ty := ofList 12 Tryz.prog.types.toList
  fn := ofList 12 Tryz.prog.funcs.toList
  tab := tabOf
  hook := hooks
  dfr := dfrL
  room := 1048576
  ng := 9
end Go.Proofs.YtdielfpgekenkaaGreatDoor.Sx
