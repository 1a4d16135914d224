/- What an operation does to abstract values: a plain function, type by type told by a table D. -/
import Derived.Test.YthiddkhonklbkaaAw2
set_option linter.unusedVariables false
set_option linter.unusedSimpArgs false
namespace Go.Aw

/-- A type, as far as the operations ask. -/
inductive TK where
  | int (k : IntKind)
  | bool | str
  | sl (e : TypeId)
  | st (fs : List (Nat × TypeId))
  | ptr (e : TypeId)
  | map (k v : TypeId)
  | other
  deriving Inhabited
structure TI where
  k : TK
  size : Nat
  bytes : Nat
  zero : List Value
  deriving Inhabited
abbrev Types := TypeId → Option TI

def TK.fits (P : Program) : TK → TypeDesc → Prop
  | .int k, d => d = .int k
  | .bool, d => d = .bool
  | .str, d => d = .string
  | .sl e, d => d = .slice e
  | .st fs, d => ∃ fields : Array Field, d = .struct fields ∧ fields.toList.map (fun f => (f.offset, f.type)) = fs ∧
      ∃ places, fields.toList.mapM (fun f => (P.info? f.type).map fun i => (f.offset, i.size)) = some places
  | .ptr e, d => d = .pointer e
  | .map k v, d => d = .map k v
  | .other, d => (match d with | .struct _ | .array _ _ => False | _ => True)

def TK.isSt : TK → Bool
  | .st _ => true
  | _ => false
structure TI.fits (P : Program) (t : TypeId) (i : TI) : Prop where
  ex : ∃ info d z, P.info? t = some info ∧ P.underlying t = some d ∧ info.size = i.size ∧ info.bytes = i.bytes ∧ info.zero = some z ∧ z.cells.toList = i.zero ∧ i.k.fits P d ∧ (i.k.isSt = false → z.cells = #[z])
  len : i.zero.length = i.size
  one : ∀ v ∈ i.zero, v.oneCell' = true
  pos : 0 < i.size
def Agrees (P : Program) (D : Types) : Prop := ∀ t i, D t = some i → i.fits P t

/-! ### abstract values looked into -/
def asB : AV → Option Bool
  | .p (.c (.bool b)) => some b
  | _ => none
def asI : AV → Option (IntKind × Int)
  | .p (.c (.int k n)) => some (k, n)
  | _ => none
def asL : AV → Option (List UInt8)
  | .p (.c (.string s)) => some s.data.toList
  | _ => none
def AV.b (x : Bool) : AV := .p (.c (.bool x))
def AV.i (n : Int) : AV := .p (.c (.int .i64 n))
def AV.s (l : List UInt8) : AV := .p (.c (str l))
@[simp] theorem asB_b (x : Bool) : asB (.p (.c (.bool x))) = some x := rfl
@[simp] theorem asI_i (k : IntKind) (n : Int) : asI (.p (.c (.int k n))) = some (k, n) := rfl
@[simp] theorem asL_s (l : List UInt8) : asL (.p (.c (str l))) = some l := by simp [asL, str]

/-! ### numbers, strings -/
def intBin (op : BinOp) (k : IntKind) (a b : Int) : Option Value :=
  match op with
  | .add => some (.int k (k.wrap (a + b)))
  | .sub => some (.int k (k.wrap (a - b)))
  | .mul => some (.int k (k.wrap (a * b)))
  | .quo => if b = 0 then none else some (.int k (k.wrap (a.tdiv b)))
  | .rem => if b = 0 then none else some (.int k (a.tmod b))
  | .eql => some (.bool (a == b))
  | .neq => some (.bool (a != b))
  | .lss => some (.bool (decide (a < b)))
  | .leq => some (.bool (decide (a ≤ b)))
  | .gtr => some (.bool (decide (a > b)))
  | .geq => some (.bool (decide (a ≥ b)))
  | .and => some (.int k (k.wrap ((BitVec.ofInt k.bits a &&& BitVec.ofInt k.bits b).toNat)))
  | .or => some (.int k (k.wrap ((BitVec.ofInt k.bits a ||| BitVec.ofInt k.bits b).toNat)))
  | .xor => some (.int k (k.wrap ((BitVec.ofInt k.bits a ^^^ BitVec.ofInt k.bits b).toNat)))
  | .andNot => some (.int k (k.wrap ((BitVec.ofInt k.bits a &&& ~~~ BitVec.ofInt k.bits b).toNat)))
  | _ => none
def shiftBin (op : BinOp) (k : IntKind) (a b : Int) : Option Value :=
  if b < 0 then none else
  match op with
  | .shl => some (.int k (k.wrap (a * 2 ^ (min b.toNat k.bits))))
  | .shr => some (.int k (a.fdiv (2 ^ (min b.toNat k.bits))))
  | _ => none
def strBin (op : BinOp) (a b : List UInt8) : Option Value :=
  match op with
  | .add => if a.length + b.length ≤ 9223372036854775807 then some (str (a ++ b)) else none
  | .eql => some (.bool (a == b))
  | .neq => some (.bool (!(a == b)))
  | .lss => some (.bool (Op.bytesLess a b))
  | .leq => some (.bool (Op.bytesLess a b || a == b))
  | .gtr => some (.bool (!(Op.bytesLess a b || a == b)))
  | .geq => some (.bool (!(Op.bytesLess a b)))
  | _ => none
def binF (D : Types) (op : BinOp) (t : TypeId) (x y : AV) : Option AV :=
  match asI x, asI y with
  | some (k, a), some (k', b) => (match op with
    | .shl | .shr => shiftBin op k a b
    | _ => if k = k' then intBin op k a b else none).map fun v => .p (.c v)
  | _, _ =>
    match asL x, asL y with
    | some a, some b => (strBin op a b).map fun v => .p (.c v)
    | _, _ =>
      match asB x, asB y with
      | some a, some b => (D t).bind fun i => (match i.k, op with | .bool, .eql => some (.b (a == b)) | .bool, .neq => some (.b (!(a == b))) | _, _ => none)
      | _, _ => none
def unF (op : UnOp) (x : AV) : Option AV :=
  match op with
  | .not => (asB x).map fun b => .b (!b)
  | .neg => (asI x).map fun (k, n) => .p (.c (.int k (k.wrap (0 - n))))
  | _ => none

/-! ### places -/
/-- Element i of a list of elements, i a Go int. -/
def nth {α : Type} (xs : List α) (i : Int) : Option α := if 0 ≤ i then xs[i.toNat]? else none
def setSeg {α : Type} (xs : List α) (o : Nat) (ys : List α) : List α := xs.take o ++ ys ++ xs.drop (o + ys.length)

structure Out where
  v : AV
  up : Heap := []
  new : List Nat := []

def AV.fineB : AV → Bool
  | .p (.c (.agg _)) => false
  | .junk => false
  | _ => true
theorem fine_of {a : AV} (h : a.fineB = true) : a.fine := by
  cases a with
  | p v =>
    cases v with
    | c x => cases x <;> first | trivial | (simp [AV.fineB] at h)
    | _ => trivial
  | junk => simp [AV.fineB] at h
  | _ => trivial

def zeros (i : TI) : List AV := i.zero.map fun v => .p (.c v)
/-- The cells that a value of a type takes. -/
def cellsFor (i : TI) (x : AV) : Option (List AV) :=
  if x.fineB = true ∧ x.cells.length = i.size ∧ x.cells.all AV.one = true then some x.cells else none

def fillF (place : Nat → Option (Nat × Nat)) (cells : List AV) : List (Nat × AV) → Option (List AV)
  | [] => some cells
  | (i, v) :: rest => (place i).bind fun (off, size) =>
    if v.fineB = true ∧ v.cells.length = size ∧ off + size ≤ cells.length ∧ v.cells.all AV.one = true then fillF place (setSeg cells off v.cells) rest else none

/-- Where field f of a struct lies, and its cells. -/
def fieldAt (D : Types) (t : TypeId) (f : Nat) : Option (Nat × TypeId) := (D t).bind fun i => match i.k with | .st fs => fs[f]? | _ => none
def sizeAt (D : Types) (t : TypeId) : Option Nat := (D t).map (·.size)
def placeF (D : Types) (t : TypeId) (f : Nat) : Option (Nat × Nat) := (fieldAt D t f).bind fun (o, ft) => (sizeAt D ft).map fun n => (o, n)

/-- One value out of cells: of a struct's type an aggregate, else the one cell. -/
def valueOf (i : TI) (cs : List AV) : Option AV :=
  match i.k with
  | .st _ => some (mkagg cs)
  | _ => match cs with | [a] => some a | _ => none

def loadF (D : Types) (t : TypeId) (x : AV) (H : Nat → Option Blk) : Option AV :=
  (D t).bind fun i =>
  match x with
  | .ptr id off => (H id).bind fun
    | .row _ _ cs => if off + i.size ≤ cs.length then valueOf i ((cs.drop off).take i.size) else none
    | _ => none
  | .fptr cs => if i.size ≤ cs.length then valueOf i ((cs.take i.size).map .p) else none
  | _ => none

def storeF (D : Types) (t : TypeId) (x v : AV) (H : Nat → Option Blk) : Option Out :=
  (D t).bind fun i => (cellsFor i v).bind fun vs =>
  match x with
  | .ptr id off => (H id).bind fun
    | .row ty sz cs => if off + i.size ≤ cs.length then some ⟨.p (.c undef), [(id, some (.row ty sz (setSeg cs off vs)))], []⟩ else none
    | _ => none
  | _ => none

def fieldAddrF (D : Types) (t : TypeId) (x : AV) (f : Nat) : Option AV :=
  (fieldAt D t f).bind fun (o, ft) => (sizeAt D ft).bind fun _ =>
  match x with
  | .ptr id off => some (.ptr id (off + o))
  | .fptr cs => some (.fptr (cs.drop o))
  | _ => none

def fieldF (D : Types) (t : TypeId) (x : AV) (f : Nat) : Option AV :=
  (fieldAt D t f).bind fun (o, ft) => (D ft).bind fun i =>
  match x with
  | .p (.agg cs) => if o + i.size ≤ cs.length then valueOf i (((cs.drop o).take i.size).map .p) else none
  | .agg cs => if o + i.size ≤ cs.length then valueOf i ((cs.drop o).take i.size) else none
  | _ => none

def indexAddrF (D : Types) (t : TypeId) (x i : AV) (H : Nat → Option Blk) : Option AV :=
  (D t).bind fun ti => match ti.k with
  | .sl e => (asI i).bind fun (_, n) =>
    match x with
    | .p (.fro sz xs) => if sizeAt D e = some sz then (nth xs n).map fun y => .fptr y.cells else none
    | .sl id sz off len => if sizeAt D e = some sz ∧ 0 ≤ n ∧ n < len then some (.ptr id ((off + n.toNat) * sz)) else none
    | _ => none
  | _ => none

def indexF (D : Types) (t : TypeId) (x i : AV) : Option AV :=
  (D t).bind fun ti => match ti.k with
  | .str => (asI i).bind fun (_, n) => (asL x).bind fun l => (nth l n).map fun b => .p (.c (.int .u8 b.toNat))
  | _ => none

def boundF (d : Int) (x : Option AV) : Option Int := match x with | none => some d | some a => (asI a).map (·.2)
def sliceF (D : Types) (t : TypeId) (x : AV) (lo hi mx : Option AV) : Option AV :=
  (D t).bind fun ti => match ti.k, mx with
  | .str, none => (asL x).bind fun l => (boundF 0 lo).bind fun a => (boundF l.length hi).bind fun b =>
    if 0 ≤ a ∧ a ≤ b ∧ b ≤ l.length then some (.s ((l.take b.toNat).drop a.toNat)) else none
  | .sl e, none => match x with
    | .p (.fro sz xs) => (boundF 0 lo).bind fun a => (boundF xs.length hi).bind fun b =>
      if sizeAt D e = some sz ∧ 0 ≤ a ∧ a ≤ b ∧ b ≤ xs.length then some (.p (.fro sz ((xs.take b.toNat).drop a.toNat))) else none
    | .sl id sz off len => (boundF 0 lo).bind fun a => (boundF len hi).bind fun b =>
      if sizeAt D e = some sz ∧ 0 ≤ a ∧ a ≤ b ∧ b ≤ len then some (.sl id sz (off + a.toNat) (b.toNat - a.toNat)) else none
    | _ => none
  | _, _ => none

def extractF (x : AV) (i : Nat) : Option AV :=
  match x with
  | .p (.tup xs) => (xs[i]?).map .p
  | .tup xs => xs[i]?
  | _ => none

def pickF (c a b : AV) : Option AV :=
  (asB c).map fun x =>
    match asB a, asB b with
    | some p, some q => .b (bif x then p else q)
    | _, _ => if x = true then a else b

/-- A slice's cells, as read. -/
def sliceCells (sz : Nat) (x : AV) (H : Nat → Option Blk) : Option (Nat × List AV) :=
  match x with
  | .p (.c (.slice none 0 0)) => some (0, [])
  | .p (.fro n xs) => if n = sz then some (xs.length, (flat xs).map .p) else none
  | .sl id n off len => (H id).bind fun
    | .row _ _ cs => if n = sz ∧ (off + len) * sz ≤ cs.length then some (len, (cs.drop (off * sz)).take (len * sz)) else none
    | _ => none
  | _ => none
/-- Bytes out of cells. -/
def bytesL : List AV → Option (List UInt8)
  | [] => some []
  | .p (.c (.int .u8 n)) :: r => (bytesL r).map (UInt8.ofNat n.toNat :: ·)
  | _ => none
def isU8 : TK → Bool
  | .int .u8 => true
  | _ => false
def convF (D : Types) (src dst : TypeId) (x : AV) (H : Nat → Option Blk) : Option AV :=
  (D src).bind fun i => (D dst).bind fun j =>
  match i.k, j.k with
  | .int _, .int k => (asI x).map fun (_, n) => .p (.c (.int k (k.wrap n)))
  | .str, .str => (asL x).map fun l => .s l
  | .sl e, .str => (D e).bind fun b => if isU8 b.k = true then (sliceCells 1 x H).bind fun (m, cs) => (bytesL cs).map .s else none
  | _, _ => none

def lenF (D : Types) (t : TypeId) (x : AV) (H : Nat → Option Blk) : Option AV :=
  (D t).bind fun ti => match ti.k with
  | .str => (asL x).map fun l => .i l.length
  | .sl _ => match x with
    | .p (.fro _ xs) => some (.i xs.length)
    | .sl _ _ _ len => some (.i len)
    | .p (.c (.slice _ n _)) => some (.i n)
    | _ => none
  | .map _ _ => match x with
    | .mp id => (H id).bind fun | .map es => some (.i es.length) | _ => none
    | .p (.fmap es) => some (.i es.length)
    | _ => none
  | _ => none

/-! ### maps with texts as keys -/
def find (k : List UInt8) : List (List UInt8 × PV) → Option PV
  | [] => none
  | (q, v) :: r => if k = q then some v else find k r
def upsert (k : List UInt8) (v : PV) : List (List UInt8 × PV) → List (List UInt8 × PV)
  | [] => [(k, v)]
  | (q, u) :: r => if k = q then (q, v) :: r else (q, u) :: upsert k v r
def entriesOf (m : AV) (H : Nat → Option Blk) : Option (List (List UInt8 × PV)) :=
  match m with
  | .mp id => (H id).bind fun | .map es => some es | _ => none
  | .p (.fmap es) => some es
  | .p (.c (.map none)) => some []
  | _ => none
/-- A single cell's zero value. -/
def zeroOf (i : TI) : Option PV := match i.k, i.zero with | .st _, _ => none | _, [z] => some (.c z) | _, _ => none
def lookupF (D : Types) (t : TypeId) (m k : AV) (ok : Bool) (H : Nat → Option Blk) : Option AV :=
  (D t).bind fun ti => match ti.k with
  | .map kt vt => (D kt).bind fun ki => match ki.k with
    | .str => (D vt).bind fun vi => (zeroOf vi).bind fun z => (asL k).bind fun l => (entriesOf m H).map fun es =>
      if ok = true then .p (.tup [(find l es).getD z, .c (.bool (find l es).isSome)]) else .p ((find l es).getD z)
    | _ => none
  | _ => none
def mapUpdateF (D : Types) (t : TypeId) (m k v : AV) (H : Nat → Option Blk) : Option Out :=
  (D t).bind fun ti => match ti.k with
  | .map kt _ => (D kt).bind fun ki => match ki.k with
    | .str => (asL k).bind fun l => match m, v with
      | .mp id, .p x => (H id).bind fun
        | .map es => some ⟨.p (.c undef), [(id, some (.map (upsert l x es)))], []⟩
        | _ => none
      | _, _ => none
    | _ => none
  | _ => none

/-! ### what is made -/
def allocF (D : Types) (t : TypeId) (d : Nat) : Option Out := (D t).map fun i => ⟨.ptr d 0, [(d, some (.row t i.size (zeros i)))], [d]⟩
def boxF (D : Types) (t : TypeId) (x : AV) (d : Nat) : Option Out := (D t).bind fun i => (cellsFor i x).map fun cs => ⟨.ptr d 0, [(d, some (.row t i.size cs))], [d]⟩
def buildF (D : Types) (t : TypeId) (parts : List (Nat × AV)) : Option AV :=
  (D t).bind fun i => match i.k with
  | .st _ => (fillF (placeF D t) (zeros i) parts).map mkagg
  | _ => none
def rep (n : Nat) (zs : List AV) : List AV := (List.replicate n zs).flatten
def buildSliceF (D : Types) (t : TypeId) (len : Nat) (parts : List (Nat × AV)) (d : Nat) : Option Out :=
  (D t).bind fun ti => match ti.k with
  | .sl e => (D e).bind fun i => if len * i.size ≤ 1000000 then
      (fillF (fun j => some (j * i.size, i.size)) (rep len (zeros i)) parts).map fun cs => ⟨.sl d i.size 0 len, [(d, some (.row e i.size cs))], [d]⟩
    else none
  | _ => none
def makeSliceF (D : Types) (t : TypeId) (l c : AV) (d : Nat) : Option Out :=
  (D t).bind fun ti => match ti.k with
  | .sl e => (D e).bind fun i => (asI l).bind fun (_, n) => (asI c).bind fun (_, m) =>
    if n = m ∧ 0 ≤ n ∧ n * i.bytes ≤ 140737488355328 ∧ n ≤ 140737488355328 then some ⟨.sl d i.size 0 n.toNat, [(d, some (.row e i.size (rep n.toNat (zeros i))))], [d]⟩ else none
  | _ => none

def appendF (D : Types) (t t' : TypeId) (s x : AV) (H : Nat → Option Blk) (d : Nat) : Option Out :=
  if t = t' then
  (D t).bind fun ti => match ti.k with
  | .sl e => (D e).bind fun i => (sliceCells i.size x H).bind fun (m, news) =>
    match s with
    | .p (.c (.slice none 0 0)) => if m * i.bytes ≤ 140737488355328 ∧ m ≤ 140737488355328 then some ⟨.sl d i.size 0 m, [(d, some (.row e i.size news))], [d]⟩ else none
    | .sl id sz off len => (H id).bind fun
      | .row ty _ cs =>
        if ty = e ∧ sz = i.size ∧ off = 0 then
          if cs.length = len * sz then
            if (len + m) * i.bytes ≤ 140737488355328 ∧ len + m ≤ 140737488355328 then some ⟨.sl d sz 0 (len + m), [(d, some (.row e i.size (cs ++ news))), (id, none)], [d]⟩ else none
          else if (len + m) * sz ≤ cs.length then some ⟨.sl id sz 0 (len + m), [(id, some (.row ty i.size (setSeg cs (len * sz) news)))], []⟩ else none
        else none
      | _ => none
    | _ => none
  | _ => none
  else none

def minmaxF (isMax : Bool) (x y : AV) : Option AV :=
  (asI x).bind fun (k, a) => (asI y).bind fun (k', b) => if k = k' then some (.p (.c (.int k (if isMax = true then (if b > a then b else a) else (if b < a then b else a))))) else none

/-- One operation that is no call of a Go function. -/
def opF (D : Types) (op : Op) (d : Nat) (e : Operand → AV) (H : Nat → Option Blk) : Option Out :=
  let v (x : Option AV) : Option Out := x.map fun a => ⟨a, [], []⟩
  match op with
  | .move x | .assign x => some ⟨e x, [], []⟩
  | .pick c a b => v (pickF (e c) (e a) (e b))
  | .alloc t => allocF D t d
  | .box t x => boxF D t (e x) d
  | .build t parts => v (buildF D t (parts.toList.map fun (i, x) => (i, e x)))
  | .buildSlice t n parts => buildSliceF D t n (parts.toList.map fun (i, x) => (i, e x)) d
  | .load t a => v (loadF D t (e a) H)
  | .store t a x => storeF D t (e a) (e x) H
  | .nilCheck x => (match e x with | .ptr id o => some ⟨.ptr id o, [], []⟩ | .fptr cs => some ⟨.fptr cs, [], []⟩ | _ => none)
  | .binOp op t x y _ => v (binF D op t (e x) (e y))
  | .unOp op _ x => v (unF op (e x))
  | .convert src dst x => v (convF D src dst (e x) H)
  | .makeFunc fn first captured => some ⟨.fn fn (first.toList.map e) (captured.toList.map e), [], []⟩
  | .makeMap _ none => some ⟨.mp d, [(d, some (.map []))], [d]⟩
  | .makeSlice t l c => makeSliceF D t (e l) (e c) d
  | .slice t x lo hi mx => v (sliceF D t (e x) (lo.map e) (hi.map e) (mx.map e))
  | .fieldAddr t x f => v (fieldAddrF D t (e x) f)
  | .field t x f => v (fieldF D t (e x) f)
  | .indexAddr t x i => v (indexAddrF D t (e x) (e i) H)
  | .index t x i => v (indexF D t (e x) (e i))
  | .lookup t m k ok => v (lookupF D t (e m) (e k) ok H)
  | .mapUpdate t m k x => mapUpdateF D t (e m) (e k) (e x) H
  | .extract x i => v (extractF (e x) i)
  | .call { callee := .builtin .len, args, argTypes } => (match args.toList, argTypes.toList with | [x], [t] => v (lenF D t (e x) H) | _, _ => none)
  | .call { callee := .builtin .append, args, argTypes } => (match args.toList, argTypes.toList with | [s, x], [t, t'] => appendF D t t' (e s) (e x) H d | _, _ => none)
  | .call { callee := .builtin .min, args, .. } => (match args.toList with | [x, y] => v (minmaxF false (e x) (e y)) | _ => none)
  | .call { callee := .builtin .max, args, .. } => (match args.toList with | [x, y] => v (minmaxF true (e x) (e y)) | _ => none)
  | _ => none

end Go.Aw
