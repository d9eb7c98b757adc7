/-
  An evaluator of the program over symbolic addresses: values, heaps, operations, code.
-/
import Derived.Test.YtdielfpgekenkaaGreatDoorJ3
import Derived.Laws.Strings
namespace Go.Proofs.YtdielfpgekenkaaGreatDoor.Sx
open Go Vm
noncomputable section
/-- a value; a pointer names a block by its number here -/
inductive SV where
  | b (x : Bool)
  | i (k : IntKind) (n : Int)
  | s (l : List Nat)
  | p (id off : Nat)
  | pn
  | sl (id off len cap : Nat)
  | sg (id off eo len : Nat)
  | se (id off d eo a : Nat)
  | sn
  | m (id : Nat)
  | mn
  | f (fn : Nat) (first cap : List SV)
  | nf
  | ifc (t : Nat) (v : SV)
  | nifc
  | agg (l : List SV)
  | tup (l : List SV)
  deriving Inhabited
inductive Tr (α : Type) where
  | nil
  | node (l : Tr α) (v : Option α) (r : Tr α)
def par (n : Nat) : Bool := Nat.beq (Nat.mod n 2) 0
def Tr.get {α : Type} (t : Tr α) : Nat → Option α :=
  Tr.rec (motive := fun _ => Nat → Option α) (fun _ => none) (fun _ v _ hl hr n => Nat.rec (motive := fun _ => Option α) v (fun n _ => Bool.rec (motive := fun _ => Option α) (hr (Nat.div n 2)) (hl (Nat.div n 2)) (par n)) n) t
def Tr.newK {α β : Type} (g : Nat) : Nat → α → (Tr α → Option β) → Option β :=
  Nat.rec (motive := fun _ => Nat → α → (Tr α → Option β) → Option β) (fun _ _ _ => none) (fun _ ih n x k => Nat.rec (motive := fun _ => Option β) (k (.node .nil (some x) .nil))
    (fun n _ => Bool.rec (motive := fun _ => Option β) (ih (Nat.div n 2) x fun r => k (.node .nil none r)) (ih (Nat.div n 2) x fun l => k (.node l none .nil)) (par n)) n) g
def Tr.setK {α β : Type} (g : Nat) (t : Tr α) : Nat → α → (Tr α → Option β) → Option β :=
  Tr.rec (motive := fun _ => Nat → α → (Tr α → Option β) → Option β) (Tr.newK g) (fun l v r hl hr n x k => Nat.rec (motive := fun _ => Option β) (k (.node l (some x) r))
    (fun n _ => Bool.rec (motive := fun _ => Option β) (hr (Nat.div n 2) x fun r => k (.node l v r)) (hl (Nat.div n 2) x fun l => k (.node l v r)) (par n)) n) t
/-- without what stands at a number -/
def Tr.delK {α β : Type} (t : Tr α) : Nat → (Tr α → Option β) → Option β :=
  Tr.rec (motive := fun _ => Nat → (Tr α → Option β) → Option β) (fun _ k => k .nil) (fun l v r hl hr n k => Nat.rec (motive := fun _ => Option β) (k (.node l none r))
    (fun n _ => Bool.rec (motive := fun _ => Option β) (hr (Nat.div n 2) fun r => k (.node l v r)) (hl (Nat.div n 2) fun l => k (.node l v r)) (par n)) n) t
/-- an object: a row of cells (g: none: it is all of the block; some k: more may follow, elements are of k cells; w: it may be written), a map, a table of which only the first cells are known, or one that may not be looked at any more -/
inductive SO where
  | row (l : List SV) (t : Nat) (g : Option Nat) (w : Bool)
  | map (es : List (SV × SV))
  | tab (l : List SV)
  | dead
structure St where
  n : Nat
  low : Nat
  hp : Tr SO
/-- how a drawn region's head is walked: so many operations, the tree, those whose stores turn old blocks, those that make a block whose number is kept ready -/
structure Tab where
  m : Nat
  t : Tree
  ws : List Nat
  res : List Nat
def lin (imp : List Nat) : List Nat → Tree
  | [] => .leaf
  | i :: p => if imp.contains i then .i1 i (lin imp p) else .q i (lin imp p)
structure Cx where
  P : Program
  ty : Tr TypeInfo
  fn : Tr Func
  tab : Nat → Nat → Option Tab
  hook : Nat → Option (List SV → St → Option (SV × St))
  dfr : Nat → Bool
  room : Nat
  ng : Nat
/-- a frame: how many global variables there are; what the slots hold -/
structure SF where
  ng : Nat
  t : Tr SV
def SF.get (f : SF) (i : Nat) : Option SV := f.t.get i
def undefS : SV := .tup []
/-! ### values of the model -/
mutual
def ofV : Value → Option SV
  | .bool x => some (.b x)
  | .int k n => some (.i k n)
  | .string s => some (.s (s.toList.map (·.toNat)))
  | .pointer none => some .pn
  | .slice none 0 0 => some .sn
  | .map none => some .mn
  | .nilFunc => some .nf
  | .nilIface => some .nifc
  | .iface t v => (ofV v).map (.ifc t)
  | .agg ⟨l⟩ => (ofVs l).map .agg
  | .tuple ⟨l⟩ => (ofVs l).map .tup
  | .func (.func g) ⟨a⟩ ⟨c⟩ => (ofVs a).bind fun a => (ofVs c).map (.f g a)
  | _ => none
def ofVs : List Value → Option (List SV)
  | [] => some []
  | v :: r => (ofV v).bind fun v => (ofVs r).map (v :: ·)
end
def bytesOf (l : List Nat) : ByteArray := ⟨(l.map UInt8.ofNat).toArray⟩
mutual
/-- a value without addresses -/
def toV : SV → Option Value
  | .b x => some (.bool x)
  | .i k n => some (.int k n)
  | .s l => some (.string (bytesOf l))
  | .pn => some (.pointer none)
  | .sn => some (.slice none 0 0)
  | .mn => some (.map none)
  | .nf => some .nilFunc
  | .nifc => some .nilIface
  | .ifc t v => (toV v).map (.iface t)
  | .agg l => (toVs l).map fun l => .agg l.toArray
  | _ => none
def toVs : List SV → Option (List Value)
  | [] => some []
  | v :: r => (toV v).bind fun v => (toVs r).map (v :: ·)
end
/-- what a step that asks nothing of the world comes to -/
def pureRun {α : Type} (P : Program) : Sem α → Option α
  | .pure a => some a
  | .program k => pureRun P (k P)
  | .mark _ k => pureRun P k
  | _ => none
/-! ### types -/
def Cx.info (C : Cx) (t : Nat) : Option TypeInfo :=
  match C.ty.get t with
  | some i => some i
  | none => C.P.info? t
def Cx.und (C : Cx) (t : Nat) : Option TypeDesc :=
  match C.info t with
  | some i => match i.desc with
    | .named _ u => match C.info u with
      | some j => some j.desc
      | none => none
    | d => some d
  | none => none
def Cx.size (C : Cx) (t : Nat) : Option Nat := (C.info t).map (·.size)
def cellsS : SV → List SV
  | .agg l => l
  | v => [v]
def Cx.zero (C : Cx) (t : Nat) : Option SV := (C.info t).bind fun i => i.zero.bind ofV
/-- the value of a type at a place of cells -/
def Cx.partS (C : Cx) (t : Nat) (l : List SV) (off : Nat) : Option SV :=
  (C.info t).bind fun i => match C.und t with
    | some (.struct _) => some (.agg ((l.drop off).take i.size))
    | some (.array _ _) => some (.agg ((l.drop off).take i.size))
    | some _ => l[off]?
    | none => none
/-! ### the frame -/
def evO (fr : SF) : Operand → Option SV
  | .tmp t => fr.get t
  | .const v => ofV v
  | .global g => if Nat.blt g fr.ng then some (.p g 0) else none
  | .func f => some (.f f [] [])
def evOs (fr : SF) : List Operand → Option (List SV)
  | [] => some []
  | x :: r => (evO fr x).bind fun v => (evOs fr r).map (v :: ·)
def evPs (fr : SF) : List (Nat × Operand) → Option (List (Nat × SV))
  | [] => some []
  | (i, x) :: r => (evO fr x).bind fun v => (evPs fr r).map ((i, v) :: ·)
def fuelT : Nat := 40
def forceN {α : Type} (n : Nat) (k : Nat → α) : α := match n with
  | 0 => k 0
  | m + 1 => k (m + 1)
def forceI {α : Type} (n : Int) (k : Int → α) : α := match n with
  | .ofNat m => forceN m fun m => k (.ofNat m)
  | .negSucc m => forceN m fun m => k (.negSucc m)
mutual
def forceV {α : Type} : SV → (SV → α) → α
  | .b x, k => match x with
    | true => k (.b true)
    | false => k (.b false)
  | .i a n, k => match a with
    | .i8 => forceI n fun n => k (.i .i8 n)
    | .i16 => forceI n fun n => k (.i .i16 n)
    | .i32 => forceI n fun n => k (.i .i32 n)
    | .i64 => forceI n fun n => k (.i .i64 n)
    | .u8 => forceI n fun n => k (.i .u8 n)
    | .u16 => forceI n fun n => k (.i .u16 n)
    | .u32 => forceI n fun n => k (.i .u32 n)
    | .u64 => forceI n fun n => k (.i .u64 n)
  | .s l, k => forceNs l fun l => k (.s l)
  | .p a o, k => forceN a fun a => forceN o fun o => k (.p a o)
  | .pn, k => k .pn
  | .sl a o n c, k => forceN a fun a => forceN o fun o => forceN n fun n => forceN c fun c => k (.sl a o n c)
  | .sg a o e n, k => forceN a fun a => forceN o fun o => forceN e fun e => forceN n fun n => k (.sg a o e n)
  | .se a o d e x, k => forceN a fun a => forceN o fun o => forceN d fun d => forceN e fun e => forceN x fun x => k (.se a o d e x)
  | .sn, k => k .sn
  | .m a, k => forceN a fun a => k (.m a)
  | .mn, k => k .mn
  | .f g a c, k => forceN g fun g => forceVs a fun a => forceVs c fun c => k (.f g a c)
  | .nf, k => k .nf
  | .ifc t v, k => forceN t fun t => forceV v fun v => k (.ifc t v)
  | .nifc, k => k .nifc
  | .agg l, k => forceVs l fun l => k (.agg l)
  | .tup l, k => forceVs l fun l => k (.tup l)
def forceVs {α : Type} : List SV → (List SV → α) → α
  | [], k => k []
  | v :: r, k => forceV v fun v => forceVs r fun r => k (v :: r)
def forceNs {α : Type} : List Nat → (List Nat → α) → α
  | [], k => k []
  | n :: r, k => forceN n fun n => forceNs r fun r => k (n :: r)
end
/-- forceV, quick for what is plain -/
def forceQ {α : Type} (v : SV) (k : SV → α) : α :=
  match v with
  | .b x => match x with
    | true => k (.b true)
    | false => k (.b false)
  | .p a o => forceN a fun a => forceN o fun o => k (.p a o)
  | .i a n => match n with
    | .ofNat m => forceN m fun m => match a with
      | .i64 => k (.i .i64 (.ofNat m))
      | .u8 => k (.i .u8 (.ofNat m))
      | .u64 => k (.i .u64 (.ofNat m))
      | a => forceV (.i a (.ofNat m)) k
    | n => forceV (.i a n) k
  | v => forceV v k
def putS {β : Type} (fr : SF) (d : Option Nat) (v : SV) (k : SF → Option β) : Option β :=
  match d with
  | some d => forceQ v fun v => fr.t.setK fuelT d v fun t => k ⟨fr.ng, t⟩
  | none => k fr
/-! ### operations that only read -/
def b2 (b : Bool) : Option SV := some (.b b)
def intS (op : BinOp) (a : IntKind) (x y : Int) : Option SV :=
  match op with
  | .add => some (.i a (a.wrap (x + y)))
  | .sub => some (.i a (a.wrap (x - y)))
  | .mul => some (.i a (a.wrap (x * y)))
  | .quo => if y = 0 then none else some (.i a (a.wrap (x.tdiv y)))
  | .rem => if y = 0 then none else some (.i a (x.tmod y))
  | .and => some (.i a (bits .and a x y))
  | .or => some (.i a (bits .or a x y))
  | .xor => some (.i a (bits .xor a x y))
  | .andNot => some (.i a (bits .andNot a x y))
  | .eql => b2 (decide (x = y))
  | .neq => b2 (!decide (x = y))
  | .lss => b2 (decide (x < y))
  | .leq => b2 (decide (x ≤ y))
  | .gtr => b2 (decide (y < x))
  | .geq => b2 (decide (y ≤ x))
  | _ => none
def lessS : List Nat → List Nat → Bool
  | [], [] => false
  | [], _ :: _ => true
  | _ :: _, [] => false
  | a :: x, b :: y => if a = b then lessS x y else decide (a < b)
def eqNs : List Nat → List Nat → Bool
  | [], [] => true
  | a :: x, b :: y => if a = b then eqNs x y else false
  | _, _ => false
def isC : Operand → Bool
  | .const _ => true
  | _ => false
def Cx.eqS (C : Cx) (t : Nat) (xo yo : Operand) (x y : SV) : Option Bool :=
  match C.und t with
  | some .bool => match x, y with
    | .b x, .b y => some (x == y)
    | _, _ => none
  | some (.pointer e) => match x, y with
    | .pn, .pn => some true
    | .pn, .p _ _ => some false
    | .p _ _, .pn => some false
    | .p a o, .p b q => if a = b then (C.size e).bind fun n => if n = 0 then none else some (decide (o = q)) else none
    | _, _ => none
  | some (.slice _) => match x, y with
    | .sn, .sn => some true
    | .sn, .sl _ _ _ _ => some false
    | .sn, .sg _ _ _ _ => some false
    | .sn, .se _ _ _ _ _ => some false
    | .sl _ _ _ _, .sn => some false
    | .sg _ _ _ _, .sn => some false
    | .se _ _ _ _ _, .sn => some false
    | _, _ => none
  | some (.map _ _) => match x, y with
    | .mn, .mn => some true
    | .mn, .m _ => some false
    | .m _, .mn => some false
    | _, _ => none
  | some (.func _ _ _) => match x, y with
    | .nf, .nf => some true
    | .nf, .f _ _ _ => some false
    | .f _ _ _, .nf => some false
    | _, _ => none
  | some (.interface _) => match x, y with
    | .nifc, .nifc => if isC xo || isC yo then some true else none
    | .nifc, .ifc _ _ => some false
    | .ifc _ _, .nifc => some false
    | _, _ => none
  | _ => none
def Cx.binS (C : Cx) (op : BinOp) (t : Nat) (xo yo : Operand) (x y : SV) : Option SV :=
  match x, y with
  | .i a x, .i b y => match op with
    | .shl => if 0 ≤ y then some (.i a (a.wrap (x * 2 ^ min y.toNat a.bits))) else none
    | .shr => if 0 ≤ y then some (.i a (x / 2 ^ min y.toNat a.bits)) else none
    | op => if a = b then intS op a x y else none
  | .s x, .s y => match op with
    | .add => if x.length + y.length < C.room then some (.s (x ++ y)) else none
    | .eql => b2 (eqNs x y)
    | .neq => b2 (!eqNs x y)
    | .lss => b2 (lessS x y)
    | .leq => b2 (lessS x y || eqNs x y)
    | .gtr => b2 (!(lessS x y || eqNs x y))
    | .geq => b2 (!lessS x y)
    | _ => none
  | .agg x, .agg y => (toVs x).bind fun x => (toVs y).bind fun y => (pureRun C.P (do eqGuard op t xo yo (.agg x.toArray) (.agg y.toArray); binOp op t (.agg x.toArray) (.agg y.toArray) : Sem Value)).bind fun v => match v with
    | .bool b => b2 b
    | _ => none
  | x, y => match op with
    | .eql => (C.eqS t xo yo x y).bind b2
    | .neq => (C.eqS t xo yo x y).bind fun b => b2 !b
    | _ => none
def rowOf (st : St) (id : Nat) : Option (List SV × Nat × Option Nat) :=
  match st.hp.get id with
  | some (.row l t g _) => some (l, t, g)
  | _ => none
def rowW (st : St) (id : Nat) : Option (List SV × Nat × Option Nat) :=
  match st.hp.get id with
  | some (.row l t g true) => some (l, t, g)
  | _ => none
/-- cells are of one value each -/
def oneB : SV → Bool
  | .agg _ => false
  | .tup _ => false
  | _ => true
def onesB : List SV → Bool
  | [] => true
  | v :: r => oneB v && onesB r
def Cx.loadS (C : Cx) (st : St) (t id off : Nat) : Option SV :=
  (rowOf st id).bind fun r => (C.info t).bind fun i => match C.und t with
    | some (.struct _) => if off + i.size ≤ r.1.length then some (.agg ((r.1.drop off).take i.size)) else none
    | some (.array _ _) => if off + i.size ≤ r.1.length then some (.agg ((r.1.drop off).take i.size)) else none
    | some _ => r.1[off]?
    | none => none
def bndS (fr : SF) (x : Option Operand) (d : Nat) : Option Nat :=
  match x with
  | none => some d
  | some x => (evO fr x).bind fun v => match v with
    | .i _ (.ofNat n) => some n
    | _ => none
def fieldOf (C : Cx) (t i : Nat) : Option Field :=
  match C.und t with
  | some (.struct fs) => fs.toList[i]?
  | _ => none
def isU8 : Option TypeDesc → Bool
  | some (.int .u8) => true
  | _ => false
/-- cells that are bytes -/
def u8sS : List SV → Option (List Int)
  | [] => some []
  | .i .u8 n :: r => (u8sS r).map (n :: ·)
  | _ :: _ => none
def eqIs : List Int → List Int → Bool
  | [], [] => true
  | a :: x, b :: y => if a = b then eqIs x y else false
  | _, _ => false
/-- is one key the other one? -/
def cmpK : SV → SV → Option Bool
  | .s a, .s b => some (eqNs a b)
  | .i a x, .i b y => if a = b then some (decide (x = y)) else none
  | .agg x, .agg y => match u8sS x, u8sS y with
    | some a, some b => if a.length = b.length then some (eqIs a b) else none
    | _, _ => none
  | _, _ => none
/-- a map's element -/
def findS (k : SV) : List (SV × SV) → Option (Option SV)
  | [] => some none
  | (k', v) :: r => match cmpK k k' with
    | some true => some (some v)
    | some false => findS k r
    | none => none
def upS (k v : SV) : List (SV × SV) → Option (List (SV × SV))
  | [] => some [(k, v)]
  | (k', v') :: r => match cmpK k k' with
    | some true => some ((k, v) :: r)
    | some false => (upS k v r).map ((k', v') :: ·)
    | none => none
def mapOf (st : St) (id : Nat) : Option (List (SV × SV)) :=
  match st.hp.get id with
  | some (.map es) => some es
  | _ => none
def esOf (st : St) : SV → Option (List (SV × SV))
  | .mn => some []
  | .m id => mapOf st id
  | _ => none
def byteOf : SV → Option Nat
  | .i .u8 (.ofNat n) => if Nat.blt n 256 then some n else none
  | _ => none
def bytesS : List SV → Option (List Nat)
  | [] => some []
  | c :: r => (byteOf c).bind fun n => (bytesS r).map (n :: ·)
def fillS (place : Nat → Option (Nat × Nat)) (cells : List SV) : List (Nat × SV) → Option (List SV)
  | [] => some cells
  | (i, v) :: rest => (place i).bind fun q =>
    let cs := cellsS v
    if cs.length = q.2 ∧ q.1 + q.2 ≤ cells.length then fillS place (cells.take q.1 ++ cs ++ cells.drop (q.1 + q.2)) rest else none
def repS : Nat → List SV → List SV
  | 0, _ => []
  | n + 1, l => l ++ repS n l
def Cx.buildS (C : Cx) (t : Nat) (parts : List (Nat × SV)) : Option SV :=
  (C.ty.get t).bind fun _ => (C.zero t).bind fun z => match C.und t with
    | some (.struct fs) => (fillS (fun i => (fs.toList[i]?).bind fun f => (C.size f.type).map fun s => (f.offset, s)) (cellsS z) parts).map .agg
    | some (.array _ e) => (C.size e).bind fun s => (fillS (fun i => some (i * s, s)) (cellsS z) parts).map .agg
    | _ => none
def lenS : SV → Option Nat
  | .sn => some 0
  | .sl _ _ n _ => some n
  | .sg _ _ _ n => some n
  | .se _ _ _ _ _ => some 0
  | _ => none
/-- of what may be appended or copied: a text too -/
def lenT : SV → Option Nat
  | .s l => some l.length
  | v => lenS v
def cellB (b : Nat) : SV := .i .u8 (Int.ofNat b)
def Cx.found (C : Cx) (e : Nat) (ok : Bool) : Option SV → Option SV
  | some u => some (if ok then .tup [u, .b true] else u)
  | none => (C.zero e).map fun z => if ok then .tup [z, .b false] else z
def Cx.keyB (C : Cx) (kt : Nat) (k : SV) : Bool :=
  match C.und kt with
  | some .string => match k with
    | .s _ => true
    | _ => false
  | some (.int a) => match k with
    | .i b _ => decide (b = a)
    | _ => false
  | some (.array n e) => match k with
    | .agg l => isU8 (C.und e) && decide (C.size e = some 1) && decide ((u8sS l).map List.length = some n)
    | _ => false
  | _ => false
def Cx.opq (C : Cx) (o : Oper) (fr : SF) (st : St) : Option SV :=
  match o.op with
  | .move x => evO fr x
  | .assign x => evO fr x
  | .pick c a b => (evO fr c).bind fun c => match c with
    | .b true => evO fr a
    | .b false => evO fr b
    | _ => none
  | .nilCheck x => (evO fr x).bind fun v => match v with
    | .p a o => some (.p a o)
    | .f g a c => some (.f g a c)
    | _ => none
  | .binOp op t x y _ => (evO fr x).bind fun a => (evO fr y).bind fun b => C.binS op t x y a b
  | .unOp op _ x => (evO fr x).bind fun v => match op, v with
    | .neg, .i kd n => some (.i kd (kd.wrap (0 - n)))
    | .xor, .i kd n => some (.i kd (bits .xor kd (if kd.signed then -1 else kd.max) n))
    | .not, .b b => some (.b !b)
    | _, _ => none
  | .convert s t x => (evO fr x).bind fun v => match C.und s, C.und t, v with
    | some _, some (.int kd), .i _ n => some (.i kd (kd.wrap n))
    | some _, some .string, .s b => some (.s b)
    | _, _, _ => none
  | .fieldAddr s x i => (evO fr x).bind fun v => match v with
    | .p a off => (fieldOf C s i).bind fun f => (C.size f.type).bind fun n => if n = 0 then none else some (.p a (off + f.offset))
    | _ => none
  | .field t x i => (evO fr x).bind fun v => match v with
    | .agg cs => (fieldOf C t i).bind fun f => C.partS f.type cs f.offset
    | _ => none
  | .indexAddr t x i => (evO fr x).bind fun v => (evO fr i).bind fun iv => match iv with
    | .i _ (.ofNat n) => match C.und t, v with
      | some (.array len e), .p a off => (C.size e).bind fun s => if n < len then some (.p a (off + n * s)) else none
      | some (.slice e), .sl a off len _ => (C.size e).bind fun s => if n < len then some (.p a (off + n * s)) else none
      | some (.slice e), .sg a off _ len => (C.size e).bind fun s => if n < len then some (.p a (off + n * s)) else none
      | _, _ => none
    | _ => none
  | .index t x i => (evO fr x).bind fun v => (evO fr i).bind fun iv => match iv with
    | .i _ (.ofNat n) => match C.und t, v with
      | some (.array len e), .agg cs => (C.size e).bind fun s => if n < len then C.partS e cs (n * s) else none
      | some .string, .s l => (l[n]?).map cellB
      | _, _ => none
    | _ => none
  | .extract x i => (evO fr x).bind fun v => match v with
    | .tup vs => vs[i]?
    | _ => none
  | .load t x => (evO fr x).bind fun v => match v with
    | .p id off => C.loadS st t id off
    | _ => none
  | .slice t x lo hi none => (evO fr x).bind fun v => match C.und t, v with
    | some .string, .s l => (bndS fr lo 0).bind fun a => (bndS fr hi l.length).bind fun b => if a ≤ b ∧ b ≤ l.length then some (.s ((l.drop a).take (b - a))) else none
    | some (.slice e), .sn => (C.size e).bind fun _ => (bndS fr lo 0).bind fun a => (bndS fr hi 0).bind fun b => if a = 0 ∧ b = 0 then some .sn else none
    | some (.slice e), .sl id off len cap => (C.size e).bind fun s => (bndS fr lo 0).bind fun a => (bndS fr hi len).bind fun b =>
      if a ≤ b ∧ b ≤ cap then some (.sl id (if cap = a then off else off + a * s) (b - a) (cap - a)) else none
    | some (.slice e), .sg id off eo len => (C.size e).bind fun s => (bndS fr lo 0).bind fun a => (bndS fr hi len).bind fun b =>
      if a ≤ b ∧ b ≤ len then if a = 0 ∨ a < len then some (.sg id (off + a * s) (eo + a) (b - a)) else some (.se id off (a * s) eo a)
      else (rowOf st id).bind fun r => if a < b ∧ r.2.2 = some s ∧ off = eo * s ∧ 0 < s ∧ off + b * s ≤ r.1.length then some (.sg id (off + a * s) (eo + a) (b - a)) else none
    | some (.slice e), .se id off d eo x => (C.size e).bind fun _ => (bndS fr lo 0).bind fun a => (bndS fr hi 0).bind fun b => if a = 0 ∧ b = 0 then some (.se id off d eo x) else none
    | some (.array n e), .p id off => (C.size e).bind fun s => (bndS fr lo 0).bind fun a => (bndS fr hi n).bind fun b =>
        if a ≤ b ∧ b ≤ n then if n < 1073741824 then some (.sl id (if n = a then off else off + a * s) (b - a) (n - a)) else none else none
    | _, _ => none
  | .slice t x lo hi (some mx) => (evO fr x).bind fun v => match C.und t, v with
    | some (.slice e), .sl id off len cap => (C.size e).bind fun s => (bndS fr lo 0).bind fun a => (bndS fr hi len).bind fun b => (bndS fr (some mx) 0).bind fun m =>
      if hi.isSome = true ∧ a ≤ b ∧ b ≤ m ∧ m ≤ cap then some (.sl id (if m = a then off else off + a * s) (b - a) (m - a)) else none
    | some (.slice e), .sg id off _ len => (C.size e).bind fun s => (bndS fr lo 0).bind fun a => (bndS fr hi len).bind fun b => (bndS fr (some mx) 0).bind fun m =>
      if hi.isSome = true ∧ a ≤ b ∧ b ≤ m ∧ m ≤ len then some (.sl id (if m = a then off else off + a * s) (b - a) (m - a)) else none
    | _, _ => none
  | .sliceToArrayPointer T x => (evO fr x).bind fun v => match C.und T, v with
    | some (.array n _), .sl id off len _ => if n ≤ len then some (.p id off) else none
    | some (.array n _), .sg id off _ len => if n ≤ len then some (.p id off) else none
    | _, _ => none
  | .call c => match c.callee with
    | .builtin .len => match c.args.toList, c.argTypes.toList with
      | [x], [T] => (evO fr x).bind fun v => match C.und T, v with
        | some .string, .s l => some (.i .i64 (Int.ofNat l.length))
        | some (.slice _), v => (lenS v).map fun n => .i .i64 (Int.ofNat n)
        | some (.map _ _), v => (esOf st v).map fun es => .i .i64 (Int.ofNat es.length)
        | _, _ => none
      | _, _ => none
    | _ => none
  | .build t parts => (evPs fr parts.toList).bind fun ps => C.buildS t ps
  | .lookup t x ix ok => (evO fr x).bind fun v => (evO fr ix).bind fun k => match C.und t with
    | some (.map kt e) => if C.keyB kt k then (esOf st v).bind fun es => (findS k es).bind fun r => C.found e ok r
      else none
    | _ => none
  | .makeInterface t x => (evO fr x).bind fun v => match C.und t with
    | some (.interface _) => none
    | some _ => some (.ifc t v)
    | none => none
  | .typeAssert x _ a ok => (evO fr x).bind fun v => match C.und a with
    | some (.interface _) => none
    | some _ => match v with
      | .nifc => if ok then (C.zero a).map fun z => .tup [z, .b false] else none
      | .ifc t u => if t = a then some (if ok then .tup [u, .b true] else u) else if ok then (C.zero a).map fun z => .tup [z, .b false] else none
      | _ => none
    | none => none
  | .makeFunc (.func g) first cap => (evOs fr first.toList).bind fun a => (evOs fr cap.toList).map fun c => .f g a c
  | _ => none
/-! ### operations that make or write memory -/
def newS {β : Type} (st : St) (o : SO) (k : Nat → St → Option β) : Option β :=
  st.hp.setK fuelT st.n o fun hp => forceN (st.n + 1) fun n => k st.n { st with n, hp }
def forceL {β : Type} (l : List SV) (k : List SV → Option β) : Option β := forceVs l k
def writeS {β : Type} (st : St) (id : Nat) (o : SO) (k : St → Option β) : Option β :=
  st.hp.setK fuelT id o fun hp => forceN (min st.low id) fun low => k { st with low, hp }
/-- the cells of a slice's elements -/
def Cx.elemsS (st : St) (s : Nat) : SV → Option (List SV)
  | .sn => some []
  | .sl id off n _ => (rowOf st id).bind fun r => if off + n * s ≤ r.1.length then some ((r.1.drop off).take (n * s)) else none
  | .sg id off _ n => (rowOf st id).bind fun r => if off + n * s ≤ r.1.length then some ((r.1.drop off).take (n * s)) else none
  | .se _ _ _ _ _ => some []
  | _ => none
def Cx.storeS {β : Type} (C : Cx) (st : St) (t id off : Nat) (v : SV) (k : St → Option β) : Option β :=
  (rowW st id).bind fun r => (C.size t).bind fun s =>
    if (cellsS v).length = s ∧ off + s ≤ r.1.length ∧ onesB (cellsS v) = true then forceVs (r.1.take off ++ cellsS v ++ r.1.drop (off + s)) fun l => writeS st id (.row l r.2.1 r.2.2 true) k else none
/-- is there room for so many elements? -/
def Cx.roomB (C : Cx) (e n : Nat) : Bool :=
  match C.info e with
  | some i => Nat.ble (n * i.bytes) 1073741824 && Nat.ble n 1073741824
  | none => false
def Cx.appendN {β : Type} (C : Cx) (st : St) (e z : Nat) (zv : SV) (len n : Nat) (new : List SV) (s : SV) (k : SV → St → Option β) : Option β :=
    if (cellsS zv).length = z ∧ C.roomB e (len + n) = true then match s with
    | .sn => forceVs new fun l => newS st (.row l e (some z) true) fun id st => k (.sg id 0 0 n) st
    | .sl id off _ cap => if len + n ≤ cap then
          if off = 0 then (rowW st id).bind fun r => if (len + n) * z ≤ r.1.length ∧ r.2.1 = e then forceVs (r.1.take (len * z) ++ new ++ r.1.drop (len * z + n * z)) fun l =>
            writeS st id (.row l r.2.1 r.2.2 true) fun st => k (.sl id 0 (len + n) cap) st else none else none
        else (rowOf st id).bind fun r => if off + len * z ≤ r.1.length then forceVs ((r.1.drop off).take (len * z) ++ new) fun l => newS st (.row l e (some z) true) fun id st => k (.sg id 0 0 (len + n)) st
      else none
    | .sg id off eo _ => if off = 0 ∧ eo = 0 then (rowW st id).bind fun r => if len * z ≤ r.1.length ∧ r.2.1 = e ∧ r.2.2 = some z then
        forceVs (r.1.take (len * z) ++ new) fun l => writeS st id .dead fun st => newS st (.row l e (some z) true) fun id st => k (.sg id 0 0 (len + n)) st
      else none else none
    | _ => none
    else none
/-- what is appended: how many elements, the cells -/
def Cx.tailS (C : Cx) (st : St) (e z t t' : Nat) (x : SV) : Option (Nat × List SV) :=
  match x with
  | .s l => match C.und t' with
    | some .string => if isU8 (C.und e) = true ∧ z = 1 then some (l.length, l.map cellB) else none
    | _ => none
  | x => if t' = t then (lenS x).bind fun n => if n = 0 then some (0, []) else (Cx.elemsS st z x).map fun new => (n, new) else none
def Cx.appendS {β : Type} (C : Cx) (st : St) (t t' : Nat) (s x : SV) (k : SV → St → Option β) : Option β :=
  match C.und t with
  | some (.slice e) => (C.size e).bind fun z => (C.zero e).bind fun zv => (lenS s).bind fun len => (C.tailS st e z t t' x).bind fun q => match q with
    | (0, _) => k s st
    | (n + 1, new) => C.appendN st e z zv len (n + 1) new s k
  | _ => none
def Cx.updS {β : Type} (C : Cx) (st : St) (t : Nat) (m x y : SV) (k : SV → St → Option β) : Option β :=
  match C.und t with
  | some (.map kt _) => if C.keyB kt x then match m with
    | .m id => (mapOf st id).bind fun es => (upS x y es).bind fun es => writeS st id (.map es) fun st => k undefS st
    | _ => none
    else none
  | _ => none
def Cx.copyS {β : Type} (C : Cx) (st : St) (t : Nat) (d x : SV) (k : SV → St → Option β) : Option β :=
  match C.und t with
  | some (.slice e) => (C.size e).bind fun z => (lenS d).bind fun dn => (lenS x).bind fun xn => if z = 1 then
      if min xn dn = 0 then k (.i .i64 0) st else (Cx.elemsS st 1 x).bind fun new => match d with
      | .sl id off _ _ => (rowW st id).bind fun r => if off + min xn dn ≤ r.1.length then forceVs (r.1.take off ++ new.take (min xn dn) ++ r.1.drop (off + min xn dn)) fun l => writeS st id (.row l r.2.1 r.2.2 true) fun st => k (.i .i64 (Int.ofNat (min xn dn))) st else none
      | .sg id off _ _ => (rowW st id).bind fun r => if off + min xn dn ≤ r.1.length then forceVs (r.1.take off ++ new.take (min xn dn) ++ r.1.drop (off + min xn dn)) fun l => writeS st id (.row l r.2.1 r.2.2 true) fun st => k (.i .i64 (Int.ofNat (min xn dn))) st else none
      | _ => none
    else none
  | _ => none
def clearAt {β : Type} (st : St) (id off n : Nat) (z : SV) (k : SV → St → Option β) : Option β :=
  (rowW st id).bind fun r => if off + (repS n [z]).length ≤ r.1.length then forceVs (r.1.take off ++ repS n [z] ++ r.1.drop (off + (repS n [z]).length)) fun l => writeS st id (.row l r.2.1 r.2.2 true) fun st => k undefS st else none
def Cx.clearS {β : Type} (C : Cx) (st : St) (t : Nat) (d : SV) (k : SV → St → Option β) : Option β :=
  match C.und t with
  | some (.slice e) => (C.zero e).bind fun zv => (lenS d).bind fun n => if n = 0 then k undefS st else
      if oneB zv = true then match d with
      | .sl id off _ _ => clearAt st id off n zv k
      | .sg id off _ _ => clearAt st id off n zv k
      | _ => none
      else none
  | _ => none
def Cx.convS {β : Type} (C : Cx) (st : St) (s t : Nat) (v : SV) (k : SV → St → Option β) : Option β :=
  match C.und s, C.und t with
  | some .string, some (.slice e) => match v with
    | .s l => if isU8 (C.und e) && Nat.blt l.length 1048576 then newS st (.row (l.map cellB) e (some 1) false) fun id st => k (.sg id 0 0 l.length) st else none
    | _ => none
  | some (.slice e), some .string => if isU8 (C.und e) then (lenS v).bind fun _ => (Cx.elemsS st 1 v).bind fun l => (bytesS l).bind fun l => k (.s l) st else none
  | some (.slice e), some (.slice _) => if s = t ∧ isU8 (C.und e) = true then match v with
    | .sl id off n c => (rowW st id).bind fun r => if r.2.2.isNone then writeS st id (.row r.1 r.2.1 none false) fun st => k (.sl id off n c) st else none
    | _ => none
    else none
  | _, _ => none
def Cx.opi {β : Type} (C : Cx) (call : Nat → List SV → St → Option (SV × St)) (o : Oper) (fr : SF) (st : St) (k : SV → St → Option β) : Option β :=
  match o.op with
  | .alloc T => (C.info T).bind fun i => i.zero.bind fun z => (ofV z).bind fun z => if onesB (cellsS z) then newS st (.row (cellsS z) T none true) fun id st => k (.p id 0) st else none
  | .box T x => (evO fr x).bind fun v => if onesB (cellsS v) then newS st (.row (cellsS v) T none true) fun id st => k (.p id 0) st else none
  | .buildSlice t len parts => (evPs fr parts.toList).bind fun ps => match C.und t with
    | some (.slice e) => (C.size e).bind fun s => (C.zero e).bind fun z => if len * s < C.room ∧ (cellsS z).length = s ∧ len < 1048576 then
        (fillS (fun i => some (i * s, s)) (repS len (cellsS z)) ps).bind fun l => forceVs l fun l => if onesB l then newS st (.row l e none true) fun id st => k (.sl id 0 len len) st else none else none
    | _ => none
  | .makeSlice t l c => (evO fr l).bind fun l => (evO fr c).bind fun c => match l, c, C.und t with
    | .i _ (.ofNat l), .i _ (.ofNat c), some (.slice e) => (C.size e).bind fun s => (C.zero e).bind fun z => if l ≤ c ∧ C.roomB e c = true ∧ (cellsS z).length = s ∧ onesB (cellsS z) = true then
        forceVs (repS c (cellsS z)) fun row => newS st (.row row e none true) fun id st => k (.sl id 0 l c) st else none
    | _, _, _ => none
  | .store T x v => (evO fr x).bind fun x => (evO fr v).bind fun v => match x with
    | .p id off => C.storeS st T id off v fun st => k undefS st
    | _ => none
  | .convert s t x => (evO fr x).bind fun v => C.convS st s t v k
  | .call c => match c.callee with
    | .value f => (evO fr f).bind fun fv => match fv with
      | .f g first cap => (evOs fr c.args.toList).bind fun vs => (call g (first ++ vs ++ cap) st).bind fun r => k r.1 r.2
      | _ => none
    | .builtin .append => (evOs fr c.args.toList).bind fun vs => match vs, c.argTypes.toList with
      | [s, x], [t, t'] => C.appendS st t t' s x k
      | _, _ => none
    | .builtin .copy => (evOs fr c.args.toList).bind fun vs => match vs, c.argTypes.toList with
      | [d, x], [t, _] => C.copyS st t d x k
      | _, _ => none
    | .builtin .clear => (evOs fr c.args.toList).bind fun vs => match vs, c.argTypes.toList with
      | [d], [t] => C.clearS st t d k
      | _, _ => none
    | .builtin .min => (evOs fr c.args.toList).bind fun vs => match vs with
      | [.i a x, .i b y] => if a = b then k (.i a (if y < x then y else x)) st else none
      | _ => none
    | .builtin .max => (evOs fr c.args.toList).bind fun vs => match vs with
      | [.i a x, .i b y] => if a = b then k (.i a (if y > x then y else x)) st else none
      | _ => none
    | _ => none
  | .makeMap _ none => newS st (.map []) fun id st => k (.m id) st
  | .mapUpdate t m x y => (evO fr m).bind fun m => (evO fr x).bind fun x => (evO fr y).bind fun y => C.updS st t m x y k
  | .insert t m x y => (evO fr m).bind fun m => (evO fr x).bind fun x => (evO fr y).bind fun y => C.updS st t m x y k
  | _ => none
def Cx.quietOp (C : Cx) (o : Oper) : Bool :=
  match o.op with
  | .alloc _ => false
  | .box _ _ => false
  | .buildSlice _ _ _ => false
  | .makeSlice _ _ _ => false
  | .store _ _ _ => false
  | .makeMap _ _ => false
  | .mapUpdate _ _ _ _ => false
  | .insert _ _ _ _ => false
  | .convert s t _ => match C.und t with
    | some (.int _) => true
    | some .string => match C.und s with
      | some .string => true
      | _ => false
    | _ => false
  | .call c => match c.callee with
    | .builtin .len => true
    | _ => false
  | _ => true
/-! ### the same, quicker: each operation by itself -/
def intQ (op : BinOp) (a b : IntKind) (x y : Int) : Option SV :=
  match op with
  | .shl => if 0 ≤ y then some (.i a (a.wrap (x * 2 ^ min y.toNat a.bits))) else none
  | .shr => if 0 ≤ y then some (.i a (x / 2 ^ min y.toNat a.bits)) else none
  | op => if a = b then intS op a x y else none
/-- of numbers of 64 bits, both not below 0 -/
def natQ (op : BinOp) (x y : Nat) : Option SV :=
  match op with
  | .add => match Nat.blt (Nat.add x y) 9223372036854775808 with
    | true => some (.i .i64 (.ofNat (Nat.add x y)))
    | false => intQ .add .i64 .i64 (.ofNat x) (.ofNat y)
  | .sub => match Nat.ble y x && Nat.blt x 9223372036854775808 with
    | true => some (.i .i64 (.ofNat (Nat.sub x y)))
    | false => intQ .sub .i64 .i64 (.ofNat x) (.ofNat y)
  | .eql => some (.b (Nat.beq x y))
  | .neq => some (.b !(Nat.beq x y))
  | .lss => some (.b (Nat.blt x y))
  | .leq => some (.b (Nat.ble x y))
  | .gtr => some (.b (Nat.blt y x))
  | .geq => some (.b (Nat.ble y x))
  | op => intQ op .i64 .i64 (.ofNat x) (.ofNat y)
def byteQ (op : BinOp) (x y : Nat) : Option SV :=
  match op with
  | .eql => some (.b (Nat.beq x y))
  | .neq => some (.b !(Nat.beq x y))
  | .lss => some (.b (Nat.blt x y))
  | .leq => some (.b (Nat.ble x y))
  | .gtr => some (.b (Nat.blt y x))
  | .geq => some (.b (Nat.ble y x))
  | op => intQ op .u8 .u8 (.ofNat x) (.ofNat y)
def Cx.binQ (C : Cx) (op : BinOp) (t : Nat) (xo yo : Operand) (x y : SV) : Option SV :=
  match x with
  | .i .i64 (.ofNat m) => match y with
    | .i .i64 (.ofNat n) => natQ op m n
    | y => C.binS op t xo yo (.i .i64 (.ofNat m)) y
  | .i .u8 (.ofNat m) => match y with
    | .i .u8 (.ofNat n) => byteQ op m n
    | y => C.binS op t xo yo (.i .u8 (.ofNat m)) y
  | x => C.binS op t xo yo x y
def qPick (fr : SF) (c a b : Operand) : Option SV := (evO fr c).bind fun c => match c with
    | .b true => evO fr a
    | .b false => evO fr b
    | _ => none
def qNil (fr : SF) (x : Operand) : Option SV := (evO fr x).bind fun v => match v with
    | .p a o => some (.p a o)
    | .f g a c => some (.f g a c)
    | _ => none
def Cx.qBin (C : Cx) (fr : SF) (op : BinOp) (t : Nat) (x y : Operand) : Option SV := (evO fr x).bind fun a => (evO fr y).bind fun b => C.binQ op t x y a b
def Cx.qFieldAddr (C : Cx) (fr : SF) (s : Nat) (x : Operand) (i : Nat) : Option SV := (evO fr x).bind fun v => match v with
    | .p a off => (fieldOf C s i).bind fun f => (C.size f.type).bind fun n => if n = 0 then none else some (.p a (off + f.offset))
    | _ => none
def Cx.qIndexAddr (C : Cx) (fr : SF) (t : Nat) (x i : Operand) : Option SV := (evO fr x).bind fun v => (evO fr i).bind fun iv => match iv with
    | .i _ (.ofNat n) => match C.und t, v with
      | some (.array len e), .p a off => (C.size e).bind fun s => if n < len then some (.p a (off + n * s)) else none
      | some (.slice e), .sl a off len _ => (C.size e).bind fun s => if n < len then some (.p a (off + n * s)) else none
      | some (.slice e), .sg a off _ len => (C.size e).bind fun s => if n < len then some (.p a (off + n * s)) else none
      | _, _ => none
    | _ => none
def Cx.qIndex (C : Cx) (fr : SF) (t : Nat) (x i : Operand) : Option SV := (evO fr x).bind fun v => (evO fr i).bind fun iv => match iv with
    | .i _ (.ofNat n) => match C.und t, v with
      | some (.array len e), .agg cs => (C.size e).bind fun s => if n < len then C.partS e cs (n * s) else none
      | some .string, .s l => (l[n]?).map cellB
      | _, _ => none
    | _ => none
def qExtract (fr : SF) (x : Operand) (i : Nat) : Option SV := (evO fr x).bind fun v => match v with
    | .tup vs => vs[i]?
    | _ => none
def Cx.qLoad (C : Cx) (fr : SF) (st : St) (t : Nat) (x : Operand) : Option SV := (evO fr x).bind fun v => match v with
    | .p id off => C.loadS st t id off
    | _ => none
def Cx.qLen (C : Cx) (fr : SF) (st : St) (args : List Operand) (ts : List Nat) : Option SV :=
  match args, ts with
      | [x], [T] => (evO fr x).bind fun v => match C.und T, v with
        | some .string, .s l => some (.i .i64 (Int.ofNat l.length))
        | some (.slice _), v => (lenS v).map fun n => .i .i64 (Int.ofNat n)
        | some (.map _ _), v => (esOf st v).map fun es => .i .i64 (Int.ofNat es.length)
        | _, _ => none
      | _, _ => none
def Cx.qBuild (C : Cx) (fr : SF) (t : Nat) (parts : List (Nat × Operand)) : Option SV := (evPs fr parts).bind fun ps => C.buildS t ps
def Cx.opqQ (C : Cx) (o : Oper) (fr : SF) (st : St) : Option SV :=
  match o.op with
  | .move x => evO fr x
  | .assign x => evO fr x
  | .pick c a b => qPick fr c a b
  | .nilCheck x => qNil fr x
  | .binOp op t x y _ => C.qBin fr op t x y
  | .fieldAddr s x i => C.qFieldAddr fr s x i
  | .indexAddr t x i => C.qIndexAddr fr t x i
  | .index t x i => C.qIndex fr t x i
  | .extract x i => qExtract fr x i
  | .load t x => C.qLoad fr st t x
  | .call c => match c.callee with
    | .builtin .len => C.qLen fr st c.args.toList c.argTypes.toList
    | _ => none
  | .build t parts => C.qBuild fr t parts.toList
  | _ => C.opq o fr st
def Cx.iAlloc {β : Type} (C : Cx) (st : St) (T : Nat) (k : SV → St → Option β) : Option β :=
  (C.info T).bind fun i => i.zero.bind fun z => (ofV z).bind fun z => if onesB (cellsS z) then newS st (.row (cellsS z) T none true) fun id st => k (.p id 0) st else none
def iBox {β : Type} (fr : SF) (st : St) (T : Nat) (x : Operand) (k : SV → St → Option β) : Option β :=
  (evO fr x).bind fun v => if onesB (cellsS v) then newS st (.row (cellsS v) T none true) fun id st => k (.p id 0) st else none
def Cx.iStore {β : Type} (C : Cx) (fr : SF) (st : St) (T : Nat) (x v : Operand) (k : SV → St → Option β) : Option β :=
  (evO fr x).bind fun x => (evO fr v).bind fun v => match x with
    | .p id off => C.storeS st T id off v fun st => k undefS st
    | _ => none
def iCall {β : Type} (call : Nat → List SV → St → Option (SV × St)) (fr : SF) (st : St) (f : Operand) (args : List Operand) (k : SV → St → Option β) : Option β :=
  (evO fr f).bind fun fv => match fv with
      | .f g first cap => (evOs fr args).bind fun vs => (call g (first ++ vs ++ cap) st).bind fun r => k r.1 r.2
      | _ => none
def Cx.iApp {β : Type} (C : Cx) (fr : SF) (st : St) (args : List Operand) (ts : List Nat) (k : SV → St → Option β) : Option β :=
  (evOs fr args).bind fun vs => match vs, ts with
      | [s, x], [t, t'] => C.appendS st t t' s x k
      | _, _ => none
def Cx.opiQ {β : Type} (C : Cx) (call : Nat → List SV → St → Option (SV × St)) (o : Oper) (fr : SF) (st : St) (k : SV → St → Option β) : Option β :=
  match o.op with
  | .alloc T => C.iAlloc st T k
  | .box T x => iBox fr st T x k
  | .store T x v => C.iStore fr st T x v k
  | .call c => match c.callee with
    | .value f => iCall call fr st f c.args.toList k
    | .builtin .append => C.iApp fr st c.args.toList c.argTypes.toList k
    | _ => C.opi call o fr st k
  | _ => C.opi call o fr st k
def Cx.opx {β : Type} (C : Cx) (call : Nat → List SV → St → Option (SV × St)) (o : Oper) (fr : SF) (st : St) (k : SV → St → Option β) : Option β :=
  match C.quietOp o with
  | true => (C.opqQ o fr st).bind fun v => k v st
  | false => C.opiQ call o fr st k
/-! ### regions -/
def gkS {β : Type} (all : List Oper) (o : Oper) (fr : SF) (A B : Option β) : Option β :=
  match o.guard with
  | none => A
  | some (j, want) => ((all[j]?).bind (·.dst)).bind fun d => (fr.get d).bind fun v => match v with
    | .b b => match b, want with
      | true, true => A
      | false, false => A
      | true, false => B
      | false, true => B
    | .tup _ => B
    | _ => none
def Cx.ops {β : Type} (C : Cx) (call : Nat → List SV → St → Option (SV × St)) (all : List Oper) : List Oper → SF → St → (SF → St → Option β) → Option β
  | [], fr, st, k => k fr st
  | o :: r, fr, st, k => gkS all o fr (C.opx call o fr st fun v st => putS fr o.dst v fun fr => C.ops call all r fr st k) (putS fr o.dst undefS fun fr => C.ops call all r fr st k)
mutual
/-- no block behind n is named -/
def below (n : Nat) : SV → Bool
  | .p a _ => Nat.blt a n
  | .sl a _ _ _ => Nat.blt a n
  | .sg a _ _ _ => Nat.blt a n
  | .se a _ _ _ _ => Nat.blt a n
  | .m a => Nat.blt a n
  | .f _ a c => belows n a && belows n c
  | .ifc _ v => below n v
  | .agg l => belows n l
  | .tup l => belows n l
  | _ => true
def belows (n : Nat) : List SV → Bool
  | [] => true
  | v :: r => below n v && belows n r
end
mutual
/-- a value without addresses -/
def flatB : SV → Bool
  | .b _ => true
  | .i _ _ => true
  | .s l => l.all (Nat.blt · 256)
  | .pn => true
  | .sn => true
  | .mn => true
  | .nf => true
  | .nifc => true
  | .ifc _ v => flatB v
  | .agg l => flatBs l
  | .tup l => flatBs l
  | _ => false
def flatBs : List SV → Bool
  | [] => true
  | v :: r => flatB v && flatBs r
end
/-- a quiet operation of a drawn region's head, or a call that is quiet there -/
def Cx.opc {β : Type} (C : Cx) (call : Nat → List SV → St → Option (SV × St)) (o : Oper) (n0 : Nat) (fr : SF) (st0 : St) (k : SV → Option β) : Option β :=
  match C.quietOp o with
  | true => (C.opqQ o fr st0).bind k
  | false => match o.op with
    | .call c => match c.callee with
      | .value f => (evO fr f).bind fun fv => match fv with
        | .f g first cap => (evOs fr c.args.toList).bind fun vs => if belows n0 (first ++ vs ++ cap) then
            (call g (first ++ vs ++ cap) st0).bind fun r => if Nat.ble n0 r.2.low && flatB r.1 then k r.1 else none else none
        | _ => none
      | _ => none
    | _ => none
/-! ### a drawn region's head -/
def isStore (o : Oper) : Bool :=
  match o.op with
  | .store _ _ _ => true
  | _ => false
/-- an operation that makes a block of the number that is kept for it -/
def Cx.opr {β : Type} (C : Cx) (call : Nat → List SV → St → Option (SV × St)) (o : Oper) (r : Option Nat) (fr : SF) (st : St) (k : SV → St → Option β) : Option β :=
  match r with
  | none => C.opx call o fr { st with low := st.n } k
  | some id => match o.op with
    | .alloc T => if Nat.blt id st.n then match st.hp.get id with
      | none => (C.info T).bind fun i => i.zero.bind fun z => (ofV z).bind fun z => if onesB (cellsS z) then st.hp.setK fuelT id (.row (cellsS z) T none true) fun hp => k (.p id 0) { st with low := st.n, hp } else none
      | some _ => none
      else none
    | _ => none
def resOf (n0 : Nat) : List Nat → Nat → Nat → Option Nat
  | [], _, _ => none
  | x :: l, i, k => if x = i then some (n0 + k) else resOf n0 l i (k + 1)
mutual
def eqV : SV → SV → Bool
  | .b x, .b y => x == y
  | .i a x, .i b y => decide (a = b) && decide (x = y)
  | .s x, .s y => eqNs x y
  | .p a o, .p b q => decide (a = b) && decide (o = q)
  | .pn, .pn => true
  | .sl a b c d, .sl a' b' c' d' => decide (a = a') && decide (b = b') && decide (c = c') && decide (d = d')
  | .sg a b c d, .sg a' b' c' d' => decide (a = a') && decide (b = b') && decide (c = c') && decide (d = d')
  | .se a b c d e, .se a' b' c' d' e' => decide (a = a') && decide (b = b') && decide (c = c') && decide (d = d') && decide (e = e')
  | .sn, .sn => true
  | .m a, .m b => decide (a = b)
  | .mn, .mn => true
  | .f g a c, .f g' a' c' => decide (g = g') && eqVs a a' && eqVs c c'
  | .nf, .nf => true
  | .ifc t v, .ifc t' v' => decide (t = t') && eqV v v'
  | .nifc, .nifc => true
  | .agg l, .agg l' => eqVs l l'
  | .tup l, .tup l' => eqVs l l'
  | _, _ => false
def eqVs : List SV → List SV → Bool
  | [], [] => true
  | a :: l, b :: m => eqV a b && eqVs l m
  | _, _ => false
end
def eqPs : List (SV × SV) → List (SV × SV) → Bool
  | [], [] => true
  | a :: l, b :: m => eqV a.1 b.1 && eqV a.2 b.2 && eqPs l m
  | _, _ => false
def eqO : SO → SO → Bool
  | .row l t g w, .row l' t' g' w' => eqVs l l' && decide (t = t') && decide (g = g') && (w == w')
  | .map l, .map l' => eqPs l l'
  | .tab l, .tab l' => eqVs l l'
  | .dead, .dead => true
  | _, _ => false
def eqOpt {α : Type} (f : α → α → Bool) : Option α → Option α → Bool
  | none, none => true
  | some a, some b => f a b
  | _, _ => false
def eqT {α : Type} (f : α → α → Bool) : Tr α → Tr α → Bool
  | .nil, .nil => true
  | .node l v r, .node l' v' r' => eqOpt f v v' && eqT f l l' && eqT f r r'
  | _, _ => false
/-- an operation that may turn anything; (i, 0) says so -/
def wildI (W : List (Nat × Nat)) (i : Nat) : Bool := W.any fun q => decide (q.1 = i) && decide (q.2 = 0)
def wildD (W : List (Nat × Nat)) (dn : List Nat) : Bool := dn.any (wildI W)
/-- (KPm, id): the block of number id is as it was behind each wild operation -/
def KPm : Nat := 1000000
def sameRow : Option SO → Option SO → Bool
  | some (.row l t none true), some (.row l' t' none true) => eqVs l l' && Nat.beq t t'
  | _, _ => false
def keptB (W : List (Nat × Nat)) (n0 : Nat) (st st' : St) : Bool := W.all fun q => !Nat.beq q.1 KPm || (Nat.blt q.2 n0 && sameRow (st.hp.get q.2) (st'.hp.get q.2))
def Cx.imp {β : Type} (C : Cx) (call : Nat → List SV → St → Option (SV × St)) (all : List Oper) (W : List (Nat × Nat)) (n0 : Nat) (wd : Bool) (i : Nat) (fr : SF) (st : St) (k : SF → St → Option β) : Option β :=
  (all[i]?).bind fun o => gkS all o fr
    (C.opx call o fr { st with low := st.n } fun v st' => if Nat.ble st.n st'.low || (!wd && (Nat.ble n0 st'.low || (isStore o && W.any fun q => decide (q.1 = i) && decide (q.2 = st'.low) && !Nat.beq q.2 0))) || (wildI W i && keptB W n0 st st') then
      forceN (min st.low st'.low) fun low => putS fr o.dst v fun fr => k fr { st' with low } else none)
    (putS fr o.dst undefS fun fr => k fr st)
def sameS (a b : SF × St) : Bool := decide (a.1.ng = b.1.ng) && eqT eqV a.1.t b.1.t && decide (a.2.n = b.2.n) && decide (a.2.low = b.2.low) && eqT eqO a.2.hp b.2.hp
mutual
def renV (ρ : Nat → Nat) : SV → SV
  | .p a o => .p (ρ a) o
  | .sl a o n c => .sl (ρ a) o n c
  | .sg a o e n => .sg (ρ a) o e n
  | .se a o d e x => .se (ρ a) o d e x
  | .m a => .m (ρ a)
  | .f g a c => .f g (renVs ρ a) (renVs ρ c)
  | .ifc t v => .ifc t (renV ρ v)
  | .agg l => .agg (renVs ρ l)
  | .tup l => .tup (renVs ρ l)
  | v => v
def renVs (ρ : Nat → Nat) : List SV → List SV
  | [] => []
  | v :: r => renV ρ v :: renVs ρ r
end
def renPs (ρ : Nat → Nat) : List (SV × SV) → List (SV × SV)
  | [] => []
  | p :: r => (renV ρ p.1, renV ρ p.2) :: renPs ρ r
def renO (ρ : Nat → Nat) : SO → SO
  | .row l t g w => .row (renVs ρ l) t g w
  | .map es => .map (renPs ρ es)
  | .tab l => .tab (renVs ρ l)
  | .dead => .dead
/-- numbers from n1 on by a list, the others as they are -/
def apL (n1 : Nat) (l : List Nat) (i : Nat) : Nat := if Nat.blt i n1 then i else (l[i - n1]?).getD i
def invB (n1 n : Nat) : List Nat → List Nat → Nat → Bool
  | [], _, i => decide (i = n)
  | x :: l, l', i => Nat.ble n1 x && Nat.blt x n && decide (l'[x - n1]? = some i) && invB n1 n l l' (i + 1)
/-- all entries of a tree: the one of a number k here is that of a * k + b -/
def allT {α : Type} (p : Nat → α → Bool) : Tr α → Nat → Nat → Bool
  | .nil, _, _ => true
  | .node l v r, a, b => (match v with
    | none => true
    | some x => p b x) && allT p l (2 * a) (a + b) && allT p r (2 * a) (2 * a + b)
def isoB (n1 : Nat) (l l' : List Nat) (x y : SF × St) : Bool :=
  decide (x.1.ng = y.1.ng) && Nat.ble x.1.ng n1 && decide (x.2.n = y.2.n) && decide (x.2.low = y.2.low) && Nat.ble x.2.low n1 && Nat.ble n1 x.2.n && invB n1 x.2.n l l' n1 && invB n1 x.2.n l' l n1 &&
  eqT (fun a b => eqV (renV (apL n1 l) a) b) x.1.t y.1.t &&
  allT (fun i o => Nat.blt i x.2.n && (match y.2.hp.get (apL n1 l i) with
    | some o' => eqO (renO (apL n1 l) o) o'
    | none => false)) x.2.hp 1 0 &&
  allT (fun j _ => (x.2.hp.get (apL n1 l' j)).isSome) y.2.hp 1 0
/-- which operation made which numbers -/
abbrev Lg := List (Nat × Nat × Nat)
def lgOf : Lg → Nat → Nat
  | [], _ => 0
  | (j, s, _) :: r, i => if j = i then s else lgOf r i
def seqN : Nat → Nat → List Nat
  | _, 0 => []
  | s, n + 1 => forceN s fun s => s :: seqN (s + 1) n
def imgL : Lg → Lg → List Nat
  | [], _ => []
  | (i, s, e) :: r, b => seqN (lgOf b i) (e - s) ++ imgL r b
def alikeS (n1 : Nat) (x y : (SF × St) × Lg) : Bool := sameS x.1 y.1 || forceNs (imgL x.2 y.2) fun l => forceNs (imgL y.2 x.2) fun l' => isoB n1 l l' x.1 y.1
/-- operations that wait for one of some, directly or not -/
def waitL : List Oper → Nat → List Nat → List Nat
  | [], _, S => S
  | o :: r, k, S => waitL r (k + 1) (if o.after.toList.any fun e => Region.binds .any e && S.contains e.on then k :: S else S)
def turned (all : List Oper) (done : List Nat) (i : Nat) (W : List (Nat × Nat)) : List Nat :=
  match W with
  | [] => []
  | W => forceNs (waitL all 0 [i]) fun S => (W.filter fun q => (!Nat.beq q.1 KPm && !S.contains q.1) || done.contains q.1).map (·.2)
def killS {β : Type} : List Nat → St → (St → Option β) → Option β
  | [], st, k => k st
  | w :: l, st, k => match st.hp.get w with
    | some (.row _ _ _ _) => st.hp.setK fuelT w .dead fun hp => killS l { st with hp } k
    | _ => none
def deadT : Tr SO → Tr SO
  | .nil => .nil
  | .node l v r => .node (deadT l) (v.map fun _ => .dead) (deadT r)
def putBack {β : Type} (h0 : Tr SO) : List Nat → Tr SO → (Tr SO → Option β) → Option β
  | [], t, k => k t
  | id :: r, t, k => match h0.get id with
    | some o => t.setK fuelT id o fun t => putBack h0 r t k
    | none => putBack h0 r t k
def keptL (W : List (Nat × Nat)) : List Nat := (W.filter fun q => Nat.beq q.1 KPm).map (·.2)
def killA {β : Type} (W : List (Nat × Nat)) (l : List Nat) (st : St) (k : St → Option β) : Option β :=
  match l.contains 0 with
  | true => match l.all (Nat.beq 0) with
    | true => putBack st.hp (keptL W) (deadT st.hp) fun hp => k { st with hp }
    | false => none
  | false => killS l st k
inductive SX where
  | normal
  | exit (id : Nat)
  | ret
def andS {α β : Type} (x : Option α) (k : α → Option β) : Option β := x.bind k
def lgS (i : Nat) (st st' : St) (x : (SF × St) × Lg) : Option ((SF × St) × Lg) := some (x.1, (i, st.n, st'.n) :: x.2)
/-! allocs whose numbers are kept ready are done late: hid -/
def waitsB (all : List Oper) (i j : Nat) : Bool :=
  match all[i]? with
  | some o => o.after.toList.any fun e => Nat.beq e.on j
  | none => true
def freeD (all : List Oper) (hid : List Nat) (i : Nat) : Bool :=
  match all[i]? with
  | some o => hid.all fun j => match all[j]? with
    | some p => decide (p.dst ≠ o.dst)
    | none => false
  | none => false
/-- a hidden alloc comes to light -/
def Cx.show {β : Type} (C : Cx) (all : List Oper) (n0 : Nat) (res : List Nat) (j : Nat) (fr : SF) (st : St) (k : SF → St → Option β) : Option β :=
  (resOf n0 res j 0).bind fun r => (all[j]?).bind fun o => match o.op with
    | .alloc T => (C.info T).bind fun i => i.zero.bind fun z => (ofV z).bind fun z => match o.dst with
      | some d => st.hp.setK fuelT r (.row (cellsS z) T none true) fun hp => putS fr (some d) (.p r 0) fun fr => k fr { st with hp }
      | none => none
    | _ => none
def Cx.reveal {β : Type} (C : Cx) (all : List Oper) (n0 : Nat) (res : List Nat) (w : Nat → Bool) : List Nat → List Nat → SF → St → (List Nat → SF → St → Option β) → Option β
  | [], kept, fr, st, k => k kept fr st
  | j :: l, kept, fr, st, k => match w j with
    | true => C.show all n0 res j fr st fun fr st => C.reveal all n0 res w l kept fr st k
    | false => C.reveal all n0 res w l (j :: kept) fr st k
/-- an alloc is done, and hidden -/
def Cx.hide {β : Type} (C : Cx) (all : List Oper) (i r : Nat) (hid : List Nat) (fr : SF) (st : St) (k : List Nat → SF → St → Option β) : Option β :=
  (all[i]?).bind fun o => match o.op with
    | .alloc T => match o.guard with
      | none => (C.info T).bind fun ti => ti.zero.bind fun z => (ofV z).bind fun z => match o.dst with
        | some d => if onesB (cellsS z) && !hid.contains i && freeD all hid i && (st.hp.get r).isNone then fr.t.delK d fun t => k (i :: hid) ⟨fr.ng, t⟩ st else none
        | none => none
      | some _ => none
    | _ => none
abbrev HT := List Nat → List Nat → SF → St → Option ((SF × St) × Lg)
def Cx.head1 (C : Cx) (call : Nat → List SV → St → Option (SV × St)) (all : List Oper) (W : List (Nat × Nat)) (n0 : Nat) (res : List Nat) (i : Nat) (s : HT) (dn hid : List Nat) (fr : SF) (st : St) : Option ((SF × St) × Lg) :=
  match resOf n0 res i 0 with
  | some r => C.hide all i r hid fr st fun hid fr st => s (i :: dn) hid fr st
  | none => C.reveal all n0 res (waitsB all i) hid [] fr st fun hid fr st => match freeD all hid i with
    | true => C.imp call all W n0 (wildD W dn) i fr st fun fr st' => andS (s (i :: dn) hid fr st') (lgS i st st')
    | false => none
def Cx.head2 (C : Cx) (call : Nat → List SV → St → Option (SV × St)) (all : List Oper) (W : List (Nat × Nat)) (n0 : Nat) (res : List Nat) (i : Nat) (s : HT) (j : Nat) (t : HT) (dn hid : List Nat) (fr : SF) (st : St) : Option ((SF × St) × Lg) :=
  andS (C.head1 call all W n0 res i s dn hid fr st) fun x => andS (C.head1 call all W n0 res j t dn hid fr st) fun y => if alikeS st.n x y then some x else none
def Cx.head3 (C : Cx) (call : Nat → List SV → St → Option (SV × St)) (all : List Oper) (W : List (Nat × Nat)) (n0 : Nat) (res : List Nat) (i : Nat) (s : HT) (j : Nat) (t : HT) (k : Nat) (u : HT) (dn hid : List Nat) (fr : SF) (st : St) : Option ((SF × St) × Lg) :=
  andS (C.head1 call all W n0 res i s dn hid fr st) fun x => andS (C.head1 call all W n0 res j t dn hid fr st) fun y => andS (C.head1 call all W n0 res k u dn hid fr st) fun z => if alikeS st.n x y && alikeS st.n x z then some x else none
def Cx.headQ (C : Cx) (call : Nat → List SV → St → Option (SV × St)) (all : List Oper) (W : List (Nat × Nat)) (st0 : St) (n0 : Nat) (res : List Nat) (i : Nat) (t : HT) (dn hid : List Nat) (fr : SF) (st : St) : Option ((SF × St) × Lg) :=
  C.reveal all n0 res (waitsB all i) hid [] fr st fun hid fr st => match freeD all hid i with
    | true => (all[i]?).bind fun o => gkS all o fr (killA W (turned all dn i W) st0 fun stW => C.opc call o n0 fr stW fun v => putS fr o.dst v fun fr => t dn hid fr st) (putS fr o.dst undefS fun fr => t dn hid fr st)
    | false => none
def Cx.headT (C : Cx) (call : Nat → List SV → St → Option (SV × St)) (all : List Oper) (W : List (Nat × Nat)) (st0 : St) (n0 : Nat) (res : List Nat) : Tree → List Nat → List Nat → SF → St → Option ((SF × St) × Lg)
  | .leaf, _, hid, fr, st => C.reveal all n0 res (fun _ => true) hid [] fr st fun _ fr st => some ((fr, st), [])
  | .q i t, dn, hid, fr, st => C.headQ call all W st0 n0 res i (C.headT call all W st0 n0 res t) dn hid fr st
  | .i1 i t, dn, hid, fr, st => C.head1 call all W n0 res i (C.headT call all W st0 n0 res t) dn hid fr st
  | .i2 i s j t, dn, hid, fr, st => C.head2 call all W n0 res i (C.headT call all W st0 n0 res s) j (C.headT call all W st0 n0 res t) dn hid fr st
  | .i3 i s j t k u, dn, hid, fr, st => C.head3 call all W n0 res i (C.headT call all W st0 n0 res s) j (C.headT call all W st0 n0 res t) k (C.headT call all W st0 n0 res u) dn hid fr st
/-- the first order alone, to see where its stores go -/
def Cx.dryT (C : Cx) (call : Nat → List SV → St → Option (SV × St)) (all : List Oper) (n0 : Nat) (res : List Nat) : Tree → SF → St → Option (SF × St)
  | .leaf, fr, st => some (fr, st)
  | .q i t, fr, st => (all[i]?).bind fun o => gkS all o fr (C.opx call o fr st fun v st => putS fr o.dst v fun fr => C.dryT call all n0 res t fr st) (putS fr o.dst undefS fun fr => C.dryT call all n0 res t fr st)
  | .i1 i t, fr, st => (all[i]?).bind fun o => gkS all o fr (C.opr call o (resOf n0 res i 0) fr st fun v st => putS fr o.dst v fun fr => C.dryT call all n0 res t fr st) (putS fr o.dst undefS fun fr => C.dryT call all n0 res t fr st)
  | .i2 i t _ _, fr, st => (all[i]?).bind fun o => gkS all o fr (C.opr call o (resOf n0 res i 0) fr st fun v st => putS fr o.dst v fun fr => C.dryT call all n0 res t fr st) (putS fr o.dst undefS fun fr => C.dryT call all n0 res t fr st)
  | .i3 i t _ _ _ _, fr, st => (all[i]?).bind fun o => gkS all o fr (C.opr call o (resOf n0 res i 0) fr st fun v st => putS fr o.dst v fun fr => C.dryT call all n0 res t fr st) (putS fr o.dst undefS fun fr => C.dryT call all n0 res t fr st)
/-- the blocks that the stores of a head turn: off the frame behind it -/
def targets (all : List Oper) (fr : SF) (n0 : Nat) : List Nat → List (Nat × Nat)
  | [] => []
  | i :: l => match all[i]? with
    | some o => match o.op with
      | .store _ x _ => match evO fr x with
        | some (.p id _) => if Nat.blt id n0 then (i, id) :: targets all fr n0 l else targets all fr n0 l
        | _ => targets all fr n0 l
      | _ => (i, 0) :: targets all fr n0 l
    | none => targets all fr n0 l
def storeAt (all : List Oper) (i : Nat) : Bool :=
  match all[i]? with
  | some o => isStore o
  | none => false
def keepers (fr : SF) (st st' : St) : List Oper → List (Nat × Nat)
  | [] => []
  | o :: r => match o.op with
    | .load _ x => match evO fr x with
      | some (.p id _) => if Nat.blt id st.n && sameRow (st.hp.get id) (st'.hp.get id) then (KPm, id) :: keepers fr st st' r else keepers fr st st' r
      | _ => keepers fr st st' r
    | _ => keepers fr st st' r
def Cx.wset {β : Type} (C : Cx) (call : Nat → List SV → St → Option (SV × St)) (ops : List Oper) (T : Tab) (n1 : Nat) (fr : SF) (st : St) (k : List (Nat × Nat) → Option β) : Option β :=
  match T.ws with
  | [] => k []
  | ws => andS (C.dryT call ops st.n T.res T.t fr { st with low := n1, n := n1 }) fun r => k (targets ops r.1 st.n ws ++ (if ws.all (storeAt ops) then [] else keepers r.1 st r.2 ops))
def Cx.region {β : Type} (C : Cx) (call : Nat → List SV → St → Option (SV × St)) (f id : Nat) (ops : List Oper) (draw : Bool) (fr : SF) (st : St) (k : SF → St → Option β) : Option β :=
  match draw with
  | false => C.ops call ops ops fr st k
  | true => (C.tab f id).bind fun T => match Nat.ble ops.length KPm with
   | false => none
   | true =>
    forceN (st.n + T.res.length) fun n1 => C.wset call ops T n1 fr st fun W =>
    andS (C.headT call ops W { st with low := n1, n := n1 } st.n T.res T.t [] [] fr { st with low := n1, n := n1 }) fun r =>
      forceN (min st.low r.1.2.low) fun low => C.ops call ops (ops.drop T.m) r.1.1 { r.1.2 with low } k
def iter {β : Type} (body : SF → St → (SX → SF → St → Option β) → Option β) : Nat → SF → St → (SX → SF → St → Option β) → Option β
  | 0, _, _, _ => none
  | n + 1, fr, st, k => body fr st fun e fr st => match e with
    | .normal => iter body n fr st k
    | e => k e fr st
def Cx.code {β : Type} (C : Cx) (call : Nat → List SV → St → Option (SV × St)) (f fuel : Nat) : Code → SF → St → (SX → SF → St → Option β) → Option β
  | .skip, fr, st, k => k .normal fr st
  | .region id ops draw, fr, st, k => C.region call f id ops.toList draw fr st fun fr st => k .normal fr st
  | .seq a b, fr, st, k => C.code call f fuel a fr st fun e fr st => match e with
    | .normal => C.code call f fuel b fr st k
    | e => k e fr st
  | .cond c x y, fr, st, k => (evO fr c).bind fun c => match c with
    | .b true => C.code call f fuel x fr st k
    | .b false => C.code call f fuel y fr st k
    | _ => none
  | .block id c, fr, st, k => C.code call f fuel c fr st fun e fr st => match e with
    | .exit id' => if id' = id then k .normal fr st else k (.exit id') fr st
    | e => k e fr st
  | .loop c, fr, st, k => iter (C.code call f fuel c) fuel fr st k
  | .exit id, fr, st, k => k (.exit id) fr st
  | .ret, fr, st, k => k .ret fr st
  | _, _, _, _ => none
def argsS {β : Type} : List SV → Nat → SF → (SF → Option β) → Option β
  | [], _, fr, k => k fr
  | v :: r, i, fr, k => putS fr (some i) v fun fr => argsS r (i + 1) fr k
def Cx.resS (C : Cx) (fr : SF) (st : St) : List ResultVar → Option (List SV)
  | [] => some []
  | .tmp t :: r => (fr.get t).bind fun v => (C.resS fr st r).map (v :: ·)
  | .cell a T :: r => (fr.get a).bind fun p => match p with
    | .p id off => (C.loadS st T id off).bind fun v => (C.resS fr st r).map (v :: ·)
    | _ => none
def oneS : List SV → SV
  | [v] => v
  | l => .tup l
/-- a function of the library without a body, of values without addresses -/
def Cx.outer (C : Cx) (f : Nat) (args : List SV) (st : St) : Option (SV × St) :=
  (toVs args).bind fun vs => (pureRun C.P (callFunc f vs.toArray)).bind fun nx => match nx with
    | .value v => (ofV v).bind fun v => forceV v fun v => some (v, st)
    | _ => none
/-! ### what is deferred, recover -/
structure SD where
  g : Nat
  args : List SV
  cap : List SV
def Cx.opsX {β : Type} (C : Cx) (call : Nat → List SV → St → Option (SV × St)) (all : List Oper) : List Oper → List SD → SF → St → (List SD → SF → St → Option β) → Option β
  | [], ds, fr, st, k => k ds fr st
  | o :: r, ds, fr, st, k => gkS all o fr
      (match o.op with
        | .defer c => match c.callee with
          | .value f => (evO fr f).bind fun fv => match fv with
            | .f g first cap => (evOs fr c.args.toList).bind fun vs => putS fr o.dst undefS fun fr => C.opsX call all r (⟨g, first ++ vs, cap⟩ :: ds) fr st k
            | _ => none
          | _ => none
        | _ => C.opx call o fr st fun v st => putS fr o.dst v fun fr => C.opsX call all r ds fr st k)
      (putS fr o.dst undefS fun fr => C.opsX call all r ds fr st k)
def Cx.codeX {β : Type} (C : Cx) (call : Nat → List SV → St → Option (SV × St)) (f fuel : Nat) : Code → List SD → SF → St → (SX → List SD → SF → St → Option β) → Option β
  | .seq a b, ds, fr, st, k => C.codeX call f fuel a ds fr st fun e ds fr st => match e with
    | .normal => C.codeX call f fuel b ds fr st k
    | e => k e ds fr st
  | .region _ ops false, ds, fr, st, k => C.opsX call ops.toList ops.toList ds fr st fun ds fr st => k .normal ds fr st
  | c, ds, fr, st, k => C.code call f fuel c fr st fun e fr st => k e ds fr st
def isRecS (o : Oper) : Bool :=
  match o.op with
  | .call c => match c.callee with
    | .builtin .recover => true
    | _ => false
  | _ => false
def Cx.opsR {β : Type} (C : Cx) (call : Nat → List SV → St → Option (SV × St)) (all : List Oper) : List Oper → SF → St → (SF → St → Option β) → Option β
  | [], fr, st, k => k fr st
  | o :: r, fr, st, k => gkS all o fr
      (match isRecS o with
        | true => putS fr o.dst .nifc fun fr => C.opsR call all r fr st k
        | false => C.opx call o fr st fun v st => putS fr o.dst v fun fr => C.opsR call all r fr st k)
      (putS fr o.dst undefS fun fr => C.opsR call all r fr st k)
def Cx.codeS {β : Type} (C : Cx) (call : Nat → List SV → St → Option (SV × St)) (f fuel : Nat) : Code → SF → St → (SX → SF → St → Option β) → Option β
  | .seq a b, fr, st, k => C.codeS call f fuel a fr st fun e fr st => match e with
    | .normal => C.codeS call f fuel b fr st k
    | e => k e fr st
  | .region _ ops false, fr, st, k => C.opsR call ops.toList ops.toList fr st fun fr st => k .normal fr st
  | c, fr, st, k => C.code call f fuel c fr st k
/-- a deferred function, nothing having panicked -/
def Cx.runD {β : Type} (C : Cx) (call : Nat → List SV → St → Option (SV × St)) (fuel g : Nat) (args : List SV) (st : St) (k : St → Option β) : Option β :=
  (C.fn.get g).bind fun fn => fn.body.bind fun c => if Nat.ble args.length fn.ntmps = true then argsS args 0 ⟨C.ng, .nil⟩ fun fr => C.codeS call g fuel c fr st fun e fr st => match e with
    | .exit _ => none
    | _ => (C.resS fr st fn.results.toList).bind fun _ => k st
    else none
def Cx.leave {β : Type} (C : Cx) (call : Nat → List SV → St → Option (SV × St)) (fuel : Nat) : List SD → St → (St → Option β) → Option β
  | [], st, k => k st
  | d :: ds, st, k => C.runD call fuel d.g (d.args ++ d.cap) st fun st => C.leave call fuel ds st k
def Cx.run (C : Cx) : Nat → Nat → List SV → St → Option (SV × St)
  | 0, _, _, _ => none
  | n + 1, f, args, st => match C.hook f with
    | some h => h args st
    | none => (C.fn.get f).bind fun fn => match fn.body with
      | none => C.outer f args st
      | some c => if Nat.ble args.length fn.ntmps = true then match C.dfr f with
        | false => argsS args 0 ⟨C.ng, .nil⟩ fun fr => C.code (C.run n) f n c fr st fun e fr st => match e with
          | .exit _ => none
          | _ => (C.resS fr st fn.results.toList).bind fun l => forceV (oneS l) fun v => some (v, st)
        | true => argsS args 0 ⟨C.ng, .nil⟩ fun fr => C.codeX (C.run n) f n c [] fr st fun e ds fr st => match e with
          | .exit _ => none
          | _ => C.leave (C.run n) n ds st fun st => (C.resS fr st fn.results.toList).bind fun l => forceV (oneS l) fun v => some (v, st)
        else none
end
end Go.Proofs.YtdielfpgekenkaaGreatDoor.Sx
