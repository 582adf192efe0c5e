/- The abstract evaluator: definitions. Immutable data by value, a small heap of boxes, own rows and maps; no tape, no capacities. -/
import Derived.Orders
import Derived.Laws.Sem
set_option autoImplicit false
set_option linter.unusedVariables false
set_option linter.unusedSimpArgs false
namespace Go.AE

/-- Immutable data: a scalar, or a slice of elements, each of so many cells. -/
inductive D where
  | sc (v : Value)
  | sl (sz : Nat) (xs : List (List D))
  deriving Inhabited

/-- Values: data; references to objects of the heap; structs; tuples; functions. -/
inductive AV where
  | d (x : D)
  | ptr (k off : Nat)
  | ap (k len i off : Nat)
  | dp (cs : List D)
  | osl (k len : Nat)
  | csl (sz : Nat) (xs : List (List D))
  | bsl (k len : Nat)
  | mp (k : Nat)
  | agg (cs : List AV)
  | tup (vs : List AV)
  | fn (f : FuncId) (caps : List AV)
  | un
  deriving Inhabited

inductive AO where
  | box (ty : TypeId) (cs : List AV)
  | arr (ty : TypeId) (sz : Nat) (xs : List (List D)) (fz : Bool)
  | mp (es : List (Value × AV))
  | gone
  deriving Inhabited

abbrev Heap := List AO
abbrev Env := List (Nat × AV)
abbrev HF := Nat → Option AO

def AV.sc (v : Value) : AV := .d (.sc v)
def AV.int (k : IntKind) (n : Int) : AV := .d (.sc (.int k n))
def AV.bool (b : Bool) : AV := .d (.sc (.bool b))
abbrev AV.undef : AV := .un

def lookup : Env → Nat → Option AV
  | [], _ => none
  | (t, v) :: r, s => if t = s then some v else lookup r s

def bindD (env : Env) : Option Tmp → AV → Env
  | none, _ => env
  | some t, v => (t, v) :: env

def constAV : Value → Option AV
  | .agg cs => if cs.toList.all Value.oneCell' then some (.agg (cs.toList.map .sc)) else none
  | .tuple _ => none
  | .func f a c => match f with
    | .func g => if a.size = 0 ∧ c.size = 0 then some (.fn g []) else none
    | _ => none
  | v => some (.sc v)

def opd (env : Env) : Operand → Option AV
  | .tmp t => lookup env t
  | .const v => constAV v
  | .func f => some (.fn f [])
  | .global _ => none

def AV.cell1 : AV → Bool
  | .agg _ | .tup _ | .un => false
  | _ => true
/-- The cells of a value. -/
def AV.cells? : AV → Option (List AV)
  | .agg cs => if cs.all AV.cell1 then some cs else none
  | v => if v.cell1 then some [v] else none

def cellsInt : AV → Option Int
  | .d (.sc (.int _ n)) => some n
  | _ => none

/-! ### Types -/
def aggT (P : Program) (t : TypeId) : Option Bool :=
  match P.underlying t with
  | some (.struct _) | some (.array _ _) => some true
  | some _ => some false
  | none => none
def sizeT (P : Program) (t : TypeId) : Option Nat := (P.info? t).map (·.size)
def zeroT (P : Program) (t : TypeId) : Option Value := (P.info? t).bind (·.zero)
def zeroDs (P : Program) (t : TypeId) : Option (List D) := (zeroT P t).bind fun z => if z.cells.toList.all Value.oneCell' then some (z.cells.toList.map .sc) else none
def zeroCells (P : Program) (t : TypeId) : Option (List AV) := (zeroDs P t).map fun l => l.map .d
def sliceE (P : Program) (t : TypeId) : Option TypeId :=
  match P.underlying t with
  | some (.slice e) => some e
  | _ => none
def fieldOff (P : Program) (t : TypeId) (i : Nat) : Option (Nat × TypeId) :=
  match P.underlying t with
  | some (.struct fs) => (fs[i]?).map fun f => (f.offset, f.type)
  | _ => none

/-! ### By value -/
def cellD (h : HF) : AV → Option (D × List Nat)
  | .d x => some (x, [])
  | .csl sz xs => some (.sl sz xs, [])
  | .osl k len => match h k with
    | some (.arr _ sz xs fz) => if xs.length = len then some (.sl sz xs, if fz then [] else [k]) else none
    | _ => none
  | _ => none
def cellsD (h : HF) : List AV → Option (List D × List Nat)
  | [] => some ([], [])
  | c :: r => match cellD h c with
    | some (x, a) => match cellsD h r with
      | some (xs, b) => some (x :: xs, a ++ b)
      | none => none
    | none => none
def listM (f : AV → Option (AV × List Nat)) : List AV → Option (List AV × List Nat)
  | [] => some ([], [])
  | c :: r => match f c with
    | some (x, a) => match listM f r with
      | some (xs, b) => some (x :: xs, a ++ b)
      | none => none
    | none => none
def toV1 (h : HF) : AV → Option (AV × List Nat)
  | .agg cs => match cellsD h cs with
    | some (ds, a) => some (.agg (ds.map .d), a)
    | none => none
  | .dp cs => some (.dp cs, [])
  | v => match cellD h v with
    | some (x, a) => some (.d x, a)
    | none => none
/-- A value without references to the heap (its rows are taken by value; the ids of rows that are not yet frozen). -/
def toV (h : HF) : Nat → AV → Option (AV × List Nat)
  | 0, v => toV1 h v
  | n + 1, v => match v with
    | .fn f caps => (listM (toV h n) caps).map fun p => (.fn f p.1, p.2)
    | .tup vs => (listM (toV h n) vs).map fun p => (.tup p.1, p.2)
    | v => toV1 h v

/-- The same where references stay: only rows are taken by value. -/
def cellR (h : HF) (c : AV) : Option (AV × List Nat) :=
  match c with
  | .d _ | .csl _ _ | .osl _ _ => (cellD h c).map fun p => (.d p.1, p.2)
  | .agg _ | .tup _ => none
  | c => some (c, [])
def toR (h : HF) : AV → Option (AV × List Nat)
  | .agg cs => (listM (cellR h) cs).map fun p => (.agg p.1, p.2)
  | v => cellR h v
def toRs (h : HF) : AV → Option (AV × List Nat)
  | .tup vs => (listM (toR h) vs).map fun p => (.tup p.1, p.2)
  | v => toR h v

def D.scalar : D → Bool
  | .sc _ => true
  | .sl _ _ => false
def AV.scalar1 : AV → Bool
  | .d x => x.scalar
  | .agg cs => cs.all fun | .d x => x.scalar | _ => false
  | _ => false
def AV.scalar : AV → Bool
  | .tup vs => vs.all AV.scalar1
  | v => v.scalar1

def AO.frz : AO → AO
  | .arr ty sz xs _ => .arr ty sz xs true
  | o => o
def freeze1 (H : Heap) (k : Nat) : Heap := H.modify k AO.frz
def freezeAll (H : Heap) : List Nat → Heap
  | [] => H
  | k :: r => freezeAll (freeze1 H k) r

/-- Results whose rows become the caller's own: rows of the callee's heap are handed over. -/
def takeRow (hc : HF) (base : Nat) (c : AV) (acc : List Nat × List AO) : Option (AV × List Nat × List AO) :=
  match c with
  | .d x => some (.d x, acc)
  | .osl k len => match hc k with
    | some (.arr ty sz xs false) => if xs.length = len ∧ k ∉ acc.1 then some (.osl (base + acc.2.length) len, acc.1 ++ [k], acc.2 ++ [.arr ty sz xs false]) else none
    | _ => none
  | _ => none
def takeRows (hc : HF) (base : Nat) : List AV → List Nat × List AO → Option (List AV × List Nat × List AO)
  | [], acc => some ([], acc)
  | c :: r, acc => match takeRow hc base c acc with
    | some (x, acc) => match takeRows hc base r acc with
      | some (xs, acc) => some (x :: xs, acc)
      | none => none
    | none => none
def take1 (hc : HF) (base : Nat) (v : AV) (acc : List Nat × List AO) : Option (AV × List Nat × List AO) :=
  match v with
  | .agg cs => (takeRows hc base cs acc).map fun p => (.agg p.1, p.2)
  | v => takeRow hc base v acc
def takeL (hc : HF) (base : Nat) : List AV → List Nat × List AO → Option (List AV × List Nat × List AO)
  | [], acc => some ([], acc)
  | c :: r, acc => match take1 hc base c acc with
    | some (x, acc) => match takeL hc base r acc with
      | some (xs, acc) => some (x :: xs, acc)
      | none => none
    | none => none
def take (hc : HF) (base : Nat) : AV → Option (AV × List Nat × List AO)
  | .tup vs => (takeL hc base vs ([], [])).map fun p => (.tup p.1, p.2)
  | v => take1 hc base v ([], [])

/-! ### Operations on scalars -/
def bytes (s : ByteArray) : List UInt8 := s.data.toList
def maxI64 : Int := 9223372036854775807
def cmpInt (op : BinOp) (x y : Int) : Option Value :=
  match op with
  | .eql => some (.bool (x == y))
  | .neq => some (.bool (x != y))
  | .lss => some (.bool (x < y))
  | .leq => some (.bool (x ≤ y))
  | .gtr => some (.bool (x > y))
  | .geq => some (.bool (x ≥ y))
  | _ => none
def intOp (op : BinOp) (k : IntKind) (x y : Int) : Option Value :=
  match op with
  | .add => some (.int k (k.wrap (x + y)))
  | .sub => some (.int k (k.wrap (x - y)))
  | .mul => some (.int k (k.wrap (x * y)))
  | .quo => if y = 0 then none else some (.int k (k.wrap (x.tdiv y)))
  | .rem => if y = 0 then none else some (.int k (x.tmod y))
  | .and => some (.int k (k.wrap ((BitVec.ofInt k.bits x &&& BitVec.ofInt k.bits y).toNat)))
  | .or => some (.int k (k.wrap ((BitVec.ofInt k.bits x ||| BitVec.ofInt k.bits y).toNat)))
  | .xor => some (.int k (k.wrap ((BitVec.ofInt k.bits x ^^^ BitVec.ofInt k.bits y).toNat)))
  | .andNot => none
  | .shl | .shr => none
  | op => cmpInt op x y
def shiftOp (op : BinOp) (k : IntKind) (x y : Int) : Option Value :=
  if y < 0 then none else
  match op with
  | .shl => some (.int k (k.wrap (x * 2 ^ (min y.toNat k.bits))))
  | .shr => some (.int k (x.fdiv (2 ^ (min y.toNat k.bits))))
  | _ => none
def strOp (op : BinOp) (x y : ByteArray) : Option Value :=
  match op with
  | .add => if ((x.size + y.size : Nat) : Int) > maxI64 then none else some (.string ⟨(bytes x ++ bytes y).toArray⟩)
  | .eql => some (.bool (bytes x == bytes y))
  | .neq => some (.bool !(bytes x == bytes y))
  | .lss => some (.bool (Op.bytesLess (bytes x) (bytes y)))
  | .leq => some (.bool (Op.bytesLess (bytes x) (bytes y) || bytes x == bytes y))
  | .gtr => some (.bool !(Op.bytesLess (bytes x) (bytes y) || bytes x == bytes y))
  | .geq => some (.bool !(Op.bytesLess (bytes x) (bytes y)))
  | _ => none
/-- Equality of two scalars of one type, as the model has it. -/
def eqSc (P : Program) (t : TypeId) (x y : Value) : Option Bool :=
  match P.underlying t, x, y with
  | some .bool, .bool a, .bool b => some (a == b)
  | some (.int _), .int k a, .int k' b => if k = k' then some (a == b) else none
  | some .string, .string a, .string b => some (bytes a == bytes b)
  | some (.pointer _), .pointer none, .pointer none => some true
  | some (.map _ _), .map none, .map none => some true
  | some (.slice _), .slice none _ _, .slice none _ _ => some true
  | some (.func _ _ _), .nilFunc, .nilFunc => some true
  | _, _, _ => none
def D.sc? : D → Option Value
  | .sc v => some v
  | _ => none
def AV.sc? : AV → Option Value
  | .d (.sc v) => some v
  | _ => none
/-- A struct's fields, one after the other: scalars only, no field is blank. -/
def eqFields (P : Program) (xs ys : List AV) : List Field → Option Bool
  | [] => some true
  | f :: fs =>
    if f.name = "_" then none else
    match P.underlying f.type with
    | some (.struct _) | some (.array _ _) => none
    | _ =>
    match (xs[f.offset]?).bind AV.sc?, (ys[f.offset]?).bind AV.sc? with
    | some a, some b => match eqSc P f.type a b with
      | some true => eqFields P xs ys fs
      | r => r
    | _, _ => none
/-- Structs of scalars and of such structs (one level). -/
def eqFields2 (P : Program) (xs ys : List AV) : List Field → Option Bool
  | [] => some true
  | f :: fs =>
    if f.name = "_" then none else
    match P.underlying f.type with
    | some (.struct gs) =>
      if P.stoodInHeld f.type then none else
      match sizeT P f.type with
      | none => none
      | some n => match eqFields P ((xs.drop f.offset).take n) ((ys.drop f.offset).take n) gs.toList with
        | some true => eqFields2 P xs ys fs
        | r => r
    | some (.array _ _) => none
    | _ =>
    match (xs[f.offset]?).bind AV.sc?, (ys[f.offset]?).bind AV.sc? with
    | some a, some b => match eqSc P f.type a b with
      | some true => eqFields2 P xs ys fs
      | r => r
    | _, _ => none
/-- A reference, or a row that is not empty, held against nil. -/
def nilEq (P : Program) (t : TypeId) (x : AV) (b : Value) : Option Bool :=
  match P.underlying t, x, b with
  | some (.pointer _), .ptr _ _, .pointer none => some false
  | some (.pointer _), .dp _, .pointer none => some false
  | some (.map _ _), .mp _, .map none => some false
  | some (.func _ _ _), .fn _ _, .nilFunc => some false
  | some (.slice _), .d (.sl _ (_ :: _)), .slice none _ _ => some false
  | some (.slice _), .csl _ (_ :: _), .slice none _ _ => some false
  | _, _, _ => none
def eqAV (P : Program) (t : TypeId) (x y : AV) : Option Bool :=
  match x, y with
  | .d (.sc a), .d (.sc b) => eqSc P t a b
  | .agg xs, .agg ys => match P.underlying t with
    | some (.struct fs) => if P.stoodInHeld t || P.eqGuardType P.depth t then none else eqFields2 P xs ys fs.toList
    | _ => none
  | x, .d (.sc b) => nilEq P t x b
  | .d (.sc a), y => nilEq P t y a
  | _, _ => none
def binAV (P : Program) (op : BinOp) (t : TypeId) (x y : AV) : Option AV :=
  match op, x, y with
  | .shl, .d (.sc (.int k a)), .d (.sc (.int _ b)) | .shr, .d (.sc (.int k a)), .d (.sc (.int _ b)) => (shiftOp op k a b).map .sc
  | op, .d (.sc (.int k a)), .d (.sc (.int k' b)) => if k = k' then (intOp op k a b).map .sc else none
  | op, .d (.sc (.string a)), .d (.sc (.string b)) => (strOp op a b).map .sc
  | .eql, x, y => (eqAV P t x y).map .bool
  | .neq, x, y => (eqAV P t x y).map fun b => .bool !b
  | _, _, _ => none
def unAV (op : UnOp) (x : AV) : Option AV :=
  match op, x with
  | .not, .d (.sc (.bool b)) => some (.bool !b)
  | .neg, .d (.sc (.int k n)) => some (.int k (k.wrap (0 - n)))
  | _, _ => none
def convAV (P : Program) (s t : TypeId) (x : AV) : Option AV :=
  match P.underlying s, P.underlying t, x with
  | some _, some (.int k), .d (.sc (.int _ n)) => some (.int k (k.wrap n))
  | some .string, some .string, .d (.sc (.string s)) => some (.sc (.string s))
  | _, _, _ => none

/-! ### Memory -/
def readBox (P : Program) (t : TypeId) (cs : List AV) (off : Nat) : Option AV :=
  match aggT P t, sizeT P t with
  | some true, some n => if off + n ≤ cs.length then some (.agg ((cs.drop off).take n)) else none
  | some false, some _ => cs[off]?
  | _, _ => none
def readCells (P : Program) (t : TypeId) (cs : List D) (off : Nat) : Option AV := readBox P t (cs.map .d) off
def loadAV (P : Program) (h : HF) (t : TypeId) : AV → Option AV
  | .ptr k off => match h k with
    | some (.box _ cs) => readBox P t cs off
    | _ => none
  | .ap k len i off => match h k with
    | some (.arr _ _ xs _) => if xs.length = len then (xs[i]?).bind fun c => readCells P t c off else none
    | _ => none
  | .dp cs => readCells P t cs 0
  | _ => none
def splice {α : Type} (cs : List α) (off : Nat) (vs : List α) : List α := cs.take off ++ vs ++ cs.drop (off + vs.length)

/-- What an operation does: rows that freeze; then a value, a new object, an object written anew, or a call. -/
inductive Act1 where
  | ret (v : AV)
  | lit (v : AV)                        -- a value in a block of its own that nobody writes
  | new (o : AO) (len : Option Nat)     -- a pointer to it, or (a row) its slice of so many
  | wr (k : Nat) (o : AO) (v : AV)
  | call (f : FuncId) (args : List AV)
  deriving Inhabited
structure Eff where
  frz : List Nat
  act : Act1
  deriving Inhabited
def ret (v : AV) : Option Eff := some ⟨[], .ret v⟩

def fillD (place : Nat → Option (Nat × Nat)) (cells : List AV) : List (Nat × AV) → Option (List AV)
  | [] => some cells
  | (i, v) :: r => match place i with
    | none => none
    | some (off, n) => match v.cells? with
      | some vs => if vs.length = n ∧ off + n ≤ cells.length then fillD place (splice cells off vs) r else none
      | none => none

def opds (env : Env) : List Operand → Option (List AV)
  | [] => some []
  | x :: r => match opd env x with
    | some v => match opds env r with
      | some vs => some (v :: vs)
      | none => none
    | none => none
def parts (env : Env) : List (Nat × Operand) → Option (List (Nat × AV))
  | [] => some []
  | (i, x) :: r => match opd env x with
    | some v => match parts env r with
      | some vs => some ((i, v) :: vs)
      | none => none
    | none => none
def chunks {α : Type} (n : Nat) : Nat → List α → List (List α)
  | 0, _ => []
  | m + 1, l => l.take n :: chunks n m (l.drop n)
def rep {α : Type} (l : List α) : Nat → List α
  | 0 => []
  | n + 1 => l ++ rep l n

def buildS (P : Program) (h : HF) (t : TypeId) (len : Nat) (ps : List (Nat × AV)) : Option Eff :=
  match sliceE P t with
  | none => none
  | some e => match sizeT P e, zeroCells P e with
    | some n, some z =>
      if n = 0 ∨ z.length ≠ n ∨ len * n > 16777216 then none else
      match fillD (fun i => some (i * n, n)) (rep z len) ps with
      | some cs => match cellsD h cs with
        | some (ds, fr) => some ⟨fr, .new (.arr e n (chunks n len ds) false) (some len)⟩
        | none => some ⟨[], .new (.box e cs) (some len)⟩
      | none => none
    | _, _ => none
def buildV (P : Program) (t : TypeId) (ps : List (Nat × AV)) : Option Eff :=
  match P.underlying t, zeroCells P t with
  | some (.struct fs), some z =>
    match fillD (fun i => (fs[i]?).bind fun f => (sizeT P f.type).map fun n => (f.offset, n)) z ps with
    | some cs => if (fs.toList.all fun f => (sizeT P f.type).isSome) then ret (.agg cs) else none
    | none => none
  | _, _ => none
def storeAV (P : Program) (h : HF) (t : TypeId) (p v : AV) : Option Eff :=
  match v.cells? with
  | none => none
  | some vs => if sizeT P t = some vs.length then
    match p with
    | .ptr k off => match h k with
      | some (.box ty cs) => if off + vs.length ≤ cs.length then some ⟨[], .wr k (.box ty (splice cs off vs)) .undef⟩ else none
      | _ => none
    | .ap k len i off => match h k with
      | some (.arr ty sz xs false) =>
        if xs.length = len then
          match xs[i]?, cellsD h vs with
          | some c, some (ds, fr) => if off + ds.length ≤ c.length ∧ k ∉ fr then some ⟨fr, .wr k (.arr ty sz (xs.set i (splice c off ds)) false) .undef⟩ else none
          | _, _ => none
        else none
      | _ => none
    | _ => none
  else none
def fieldP (P : Program) (t : TypeId) (i : Nat) (p : AV) : Option Eff :=
  match fieldOff P t i with
  | some (o, ft) => if (sizeT P ft).getD 0 = 0 then none else match p with
    | .ptr k off => ret (.ptr k (off + o))
    | .ap k len i off => ret (.ap k len i (off + o))
    | .dp cs => ret (.dp (cs.drop o))
    | _ => none
  | none => none
def fieldV (P : Program) (t : TypeId) (i : Nat) (x : AV) : Option Eff :=
  match fieldOff P t i, x with
  | some (o, ft), .agg cs => (readBox P ft cs o).bind ret
  | _, _ => none
def indexP (P : Program) (h : HF) (t : TypeId) (x ix : AV) : Option Eff :=
  match sliceE P t, ix with
  | some e, .d (.sc (.int _ i)) => match sizeT P e with
    | some n =>
      if 0 ≤ i then match x with
        | .d (.sl sz xs) => if sz = n then (xs[i.toNat]?).bind fun c => ret (.dp c) else none
        | .csl sz xs => if sz = n then (xs[i.toNat]?).bind fun c => ret (.dp c) else none
        | .osl k len => match h k with
          | some (.arr _ sz xs _) => if xs.length = len ∧ sz = n ∧ i < (len : Int) then ret (.ap k len i.toNat 0) else none
          | _ => none
        | .bsl k len => if i < (len : Int) then ret (.ptr k (i.toNat * n)) else none
        | _ => none
      else none
    | none => none
  | _, _ => none
def indexV (P : Program) (t : TypeId) (x ix : AV) : Option Eff :=
  match P.underlying t, x, ix with
  | some .string, .d (.sc (.string s)), .d (.sc (.int _ i)) => if 0 ≤ i then ((bytes s)[i.toNat]?).bind fun b => ret (.int .u8 b.toNat) else none
  | some (.array n e), .agg cs, .d (.sc (.int _ i)) => match sizeT P e with
    | some z => if 0 ≤ i ∧ i < (n : Int) then (readBox P e cs (i.toNat * z)).bind ret else none
    | none => none
  | _, _, _ => none
/-- Bounds of a slice expression: low, high; 'max' must be high. -/
def lohi (n : Nat) (lo hi : Option AV) : Option (Nat × Nat) :=
  match (match hi with | none => some (n : Int) | some (.d (.sc (.int _ j))) => some j | _ => none), (match lo with | none => some (0 : Int) | some (.d (.sc (.int _ j))) => some j | _ => none) with
  | some j, some i => if 0 ≤ i ∧ i ≤ j ∧ j ≤ (n : Int) then some (i.toNat, j.toNat) else none
  | _, _ => none
def sameInt : Option AV → Option AV → Bool
  | some (.d (.sc (.int _ a))), some (.d (.sc (.int _ b))) => a == b
  | _, _ => false
def sliceV (P : Program) (h : HF) (t : TypeId) (x : AV) (lo hi mx : Option AV) : Option Eff :=
  match P.underlying t, x with
  | some .string, .d (.sc (.string s)) => if mx.isSome then none else (lohi s.size lo hi).bind fun p => ret (.sc (.string ⟨((bytes s).take p.2 |>.drop p.1).toArray⟩))
  | some (.slice e), x => match sizeT P e with
    | none => none
    | some n => match x with
      | .d (.sc (.slice none 0 0)) => (lohi 0 lo hi).bind fun _ => if mx.isNone ∨ sameInt mx hi then ret (.d (.sc (.slice none 0 0))) else none
      | x => match cellD h x with
        | some (.sl sz xs, fr) => if sz = n then (lohi xs.length lo hi).bind fun p =>
            match mx with
            | none => some ⟨fr, .ret (.d (.sl sz ((xs.take p.2).drop p.1)))⟩
            | some _ => if sameInt mx hi then some ⟨fr, .ret (.csl sz ((xs.take p.2).drop p.1))⟩ else none
          else none
        | _ => none
  | _, _ => none
def roomy (P : Program) (e : TypeId) (n : Nat) : Bool := match P.info? e with
  | some i => n * i.bytes ≤ 140737488355328 && 0 < i.bytes
  | none => false
def nilSl : AV := .d (.sc (.slice none 0 0))
/-- Is it a slice whose length and capacity are in order? -/
def sliceLike (h : HF) : AV → Bool
  | .d (.sc (.slice none 0 0)) | .d (.sl _ _) | .csl _ _ => true
  | .osl k len => match h k with
    | some (.arr _ _ xs _) => xs.length = len
    | _ => false
  | _ => false
def appendAV (P : Program) (h : HF) (t t2 : TypeId) (s x : AV) : Option Eff :=
  match sliceE P t, sliceE P t2 with
  | some e, some _ => match sizeT P e, zeroT P e, (match x with | .d (.sc (.slice none 0 0)) => some (D.sl ((sizeT P e).getD 0) [], []) | x => cellD h x) with
    | some n, some z, some (.sl sz ys, fr) =>
      if sz ≠ n ∨ n = 0 ∨ z.cells.size ≠ n then none else
      match ys with
      | [] => if sliceLike h s then some ⟨fr, .ret s⟩ else none
      | _ :: _ => match s with
        | .d (.sc (.slice none 0 0)) => if roomy P e ys.length then some ⟨fr, .new (.arr e n ys false) (some ys.length)⟩ else none
        | .csl sz xs => if sz = n ∧ roomy P e (xs.length + ys.length) then some ⟨fr, .new (.arr e n (xs ++ ys) false) (some (xs.length + ys.length))⟩ else none
        | .osl k len => match h k with
          | some (.arr ty sz xs false) => if xs.length = len ∧ ty = e ∧ sz = n ∧ k ∉ fr ∧ roomy P e (xs.length + ys.length) then some ⟨fr, .wr k (.arr ty sz (xs ++ ys) false) (.osl k (xs.length + ys.length))⟩ else none
          | _ => none
        | _ => none
    | _, _, _ => none
  | _, _ => none
def lenAV (P : Program) (t : TypeId) (x : AV) : Option Eff :=
  match P.underlying t, x with
  | some .string, .d (.sc (.string s)) => ret (.int .i64 s.size)
  | some (.slice _), .d (.sc (.slice _ n _)) => ret (.int .i64 n)
  | some (.slice _), .d (.sl _ xs) => ret (.int .i64 xs.length)
  | some (.slice _), .csl _ xs => ret (.int .i64 xs.length)
  | some (.slice _), .osl _ len => ret (.int .i64 len)
  | some (.slice _), .bsl _ len => ret (.int .i64 len)
  | _, _ => none
def minAV (lt : Int → Int → Bool) : AV → List AV → Option AV
  | x, [] => some x
  | .d (.sc (.int k x)), .d (.sc (.int k' y)) :: r => if k = k' then minAV lt (.int k (if lt y x then y else x)) r else none
  | _, _ => none
def builtinAV (P : Program) (h : HF) (b : Builtin) (ts : List TypeId) (vs : List AV) : Option Eff :=
  match b, ts, vs with
  | .len, [t], [x] => lenAV P t x
  | .append, [t, t2], [s, x] => appendAV P h t t2 s x
  | .min, _, x :: r => (minAV (fun y x => y < x) x r).bind ret
  | .max, _, x :: r => (minAV (fun y x => y > x) x r).bind ret
  | _, _, _ => none
def findE (k : Value) : List (Value × AV) → Option (Option AV)
  | [] => some none
  | (q, v) :: r => match k, q with
    | .string a, .string b => if bytes a == bytes b then some (some v) else findE k r
    | .int i a, .int j b => if i = j then (if a == b then some (some v) else findE k r) else none
    | _, _ => none
def putE (k : Value) (x : AV) : List (Value × AV) → List (Value × AV)
  | [] => [(k, x)]
  | (q, v) :: r => match k, q with
    | .string a, .string b => if bytes a == bytes b then (k, x) :: r else (q, v) :: putE k x r
    | .int _ a, .int _ b => if a == b then (k, x) :: r else (q, v) :: putE k x r
    | _, _ => (q, v) :: putE k x r
def keyOk (P : Program) (t : TypeId) (k : Value) : Bool :=
  match P.underlying t, k with
  | some (.map kt _), .string _ => (P.underlying kt matches some .string)
  | some (.map kt _), .int _ _ => (P.underlying kt matches some (.int _))
  | _, _ => false
def mapE (P : Program) (t : TypeId) : Option TypeId :=
  match P.underlying t with
  | some (.map _ e) => some e
  | _ => none
def zeroAV (P : Program) (t : TypeId) : Option AV := (zeroT P t).bind constAV
def lookupAV (P : Program) (h : HF) (t : TypeId) (m k : AV) (ok : Bool) : Option Eff :=
  match k with
  | .d (.sc k) => if keyOk P t k then
      match (match m with
        | .d (.sc (.map none)) => some none
        | .mp i => match h i with
          | some (.mp es) => findE k es
          | _ => none
        | _ => none), (mapE P t).bind (zeroAV P) with
      | some (some v), some _ => ret (if ok then .tup [v, .bool true] else v)
      | some none, some z => ret (if ok then .tup [z, .bool false] else z)
      | _, _ => none
    else none
  | _ => none
def updateAV (P : Program) (h : HF) (t : TypeId) (m k v : AV) : Option Eff :=
  match m, k with
  | .mp i, .d (.sc k) => if keyOk P t k then
      match h i with
      | some (.mp es) => (findE k es).bind fun _ => match v with
        | .agg _ | .tup _ => none
        | v => some ⟨[], .wr i (.mp (putE k v es)) .undef⟩
      | _ => none
    else none
  | _, _ => none

def opEff (P : Program) (h : HF) (env : Env) (o : Oper) : Option Eff :=
  match o.op with
  | .move x | .assign x => (opd env x).bind ret
  | .pick c a b => match opd env c with
    | some (.d (.sc (.bool t))) => (opd env (if t then a else b)).bind ret
    | _ => none
  | .alloc t => (zeroCells P t).bind fun z => some ⟨[], .new (.box t z) none⟩
  | .box t x => (opd env x).bind fun v => v.cells?.bind fun cs => some ⟨[], .new (.box t cs) none⟩
  | .build t ps => (parts env ps.toList).bind (buildV P t)
  | .buildSlice t len ps => (parts env ps.toList).bind (buildS P h t len)
  | .load t p => (opd env p).bind fun p => (loadAV P h t p).bind ret
  | .store t p x => (opd env p).bind fun p => (opd env x).bind fun x => storeAV P h t p x
  | .nilCheck x => (opd env x).bind fun v => match v with
    | .ptr _ _ | .ap _ _ _ _ | .dp _ | .fn _ _ => ret v
    | _ => none
  | .binOp op t x y _ => (opd env x).bind fun x => (opd env y).bind fun y => (binAV P op t x y).bind ret
  | .unOp op _ x => (opd env x).bind fun x => (unAV op x).bind ret
  | .convert s t x => (opd env x).bind fun x => (convAV P s t x).bind ret
  | .makeFunc (.func f) first caps => if first.size = 0 then (opds env caps.toList).bind fun cs => ret (.fn f cs) else none
  | .makeMap t none => if (mapE P t).isSome then some ⟨[], .new (.mp []) none⟩ else none
  | .makeSlice t l c => (opd env l).bind fun l => (opd env c).bind fun c => match cellsInt l, cellsInt c, sliceE P t with
    | some l, some c, some e => match sizeT P e, zeroDs P e with
      | some n, some z => if 0 ≤ l ∧ l ≤ c ∧ n ≠ 0 ∧ z.length = n ∧ roomy P e c.toNat then some ⟨[], .new (.arr e n (List.replicate l.toNat z) false) (some l.toNat)⟩ else none
      | _, _ => none
    | _, _, _ => none
  | .slice t x lo hi mx => (opd env x).bind fun x =>
      (match lo with | none => some none | some l => (opd env l).map some).bind fun lo =>
      (match hi with | none => some none | some l => (opd env l).map some).bind fun hi =>
      (match mx with | none => some none | some l => (opd env l).map some).bind fun mx => sliceV P h t x lo hi mx
  | .fieldAddr t x i => (opd env x).bind (fieldP P t i)
  | .field t x i => (opd env x).bind (fieldV P t i)
  | .indexAddr t x ix => (opd env x).bind fun x => (opd env ix).bind fun ix => indexP P h t x ix
  | .index t x ix => (opd env x).bind fun x => (opd env ix).bind fun ix => indexV P t x ix
  | .lookup t m k ok => (opd env m).bind fun m => (opd env k).bind fun k => lookupAV P h t m k ok
  | .mapUpdate t m k x => (opd env m).bind fun m => (opd env k).bind fun k => (opd env x).bind fun x => updateAV P h t m k x
  | .extract x i => (opd env x).bind fun v => match v with
    | .tup vs => (vs[i]?).bind ret
    | _ => none
  | .call c => match c.callee with
    | .builtin b => (opds env c.args.toList).bind (builtinAV P h b c.argTypes.toList)
    | .value f => (opd env f).bind fun f => (opds env c.args.toList).bind fun vs => match f with
      | .fn f caps => some ⟨[], .call f (vs ++ caps)⟩
      | _ => none
    | .invoke _ _ => none
  | _ => none

/-! ### Calls -/
def AV.inside1 (b : Nat) : AV → Bool
  | .ptr k _ | .ap k _ _ _ | .osl k _ | .bsl k _ | .mp k => k < b
  | .d _ | .dp _ | .csl _ _ => true
  | _ => false
def AV.inside (b : Nat) : Nat → AV → Bool
  | 0, v => v.inside1 b
  | n + 1, v => match v with
    | .agg cs | .tup cs | .fn _ cs => cs.all (AV.inside b n)
    | v => v.inside1 b
def AO.inside (b : Nat) : AO → Bool
  | .box _ cs => cs.all (AV.inside b 3)
  | .mp es => es.all fun e => e.2.inside b 3
  | _ => true

structure Cfg where
  P : Program
  thaw : FuncId → Bool
  shared : FuncId → Bool
  trim : FuncId → Bool
  reader : FuncId → Bool
  intr : FuncId → Option (List AV → Heap → Option (AV × Heap))

abbrev CallE := FuncId → List AV → Heap → Option (AV × Heap)
def get (H : Heap) : HF := fun k => H[k]?

/-- A call, by value where no reference is handed over. -/
def doCall (C : Cfg) (callE : CallE) (f : FuncId) (args : List AV) (H : Heap) : Option (AV × Heap) :=
  match (if C.shared f then none else listM (toV (get H) 3) args) with
  | some (ds, fr) => match callE f ds [] with
    | some (r, Hc) =>
      if C.thaw f then (take (get Hc) H.length r).map fun p => (p.1, freezeAll H fr ++ p.2.2)
      else match toV (get Hc) 1 r with
        | some (rv, _) => if rv.scalar then some (rv, H) else some (rv, freezeAll H fr)
        | none => none
    | none => none
  | none => match callE f args H with
    | some (r, H') =>
      if C.thaw f then some (r, H')
      else match toRs (get H') r with
        | some (rv, fr) => if C.trim f && rv.inside H.length 2 && (H'.take H.length).all (AO.inside H.length) then some (rv, (freezeAll H' fr).take H.length) else some (rv, freezeAll H' fr)
        | none => none
    | none => none

/-! ### Regions -/
def apply (C : Cfg) (callE : CallE) (H : Heap) (e : Eff) : Option (AV × Heap) :=
  match e.act with
  | .ret v => some (v, freezeAll H e.frz)
  | .lit v => some (v, freezeAll H e.frz)
  | .new o none => some ((match o with | .mp _ => .mp H.length | _ => .ptr H.length 0), freezeAll H e.frz ++ [o])
  | .new o (some n) => some ((match o with | .box _ _ => .bsl H.length n | _ => .osl H.length n), freezeAll H e.frz ++ [o])
  | .wr k o v => some (v, (freezeAll H e.frz).set k o)
  | .call f args => doCall C callE f args (freezeAll H e.frz)
def guardOk (ops : List Oper) (env : Env) (o : Oper) : Option Bool :=
  match o.guard with
  | none => some true
  | some (j, want) => match (ops[j]?).bind (·.dst) with
    | some t => match lookup env t with
      | some (.d (.sc (.bool b))) => some (b == want)
      | some .un => some false
      | _ => none
    | none => none
/-- A slice of a row that nobody reads: the last operation of its region. -/
def idle (ops : List Oper) (o : Oper) : Bool :=
  (match o.op with | .slice .. => true | _ => false) && (match o.dst, (ops.getLast?).bind (·.dst) with | some a, some b => a == b | _, _ => false)
def dropT (env : Env) (t : Option Tmp) : Env := env.filter fun p => !(some p.1 == t)
def oneOp (C : Cfg) (callE : CallE) (ops : List Oper) (o : Oper) (env : Env) (H : Heap) : Option (Env × Heap) :=
  match guardOk ops env o with
  | some true => match opEff C.P (get H) env o with
    | some e =>
      if idle ops o && !e.frz.isEmpty then
        match e.act with
        | .ret _ => some (dropT env o.dst, H)
        | _ => none
      else match apply C callE H e with
      | some (v, H') => some (bindD env o.dst v, H')
      | none => none
    | none => none
  | some false => some (bindD env o.dst .undef, H)
  | none => none
def runOps (C : Cfg) (callE : CallE) (ops : List Oper) : List Oper → Env → Heap → Option (Env × Heap)
  | [], env, H => some (env, H)
  | o :: r, env, H => match oneOp C callE ops o env H with
    | some (env, H) => runOps C callE ops r env H
    | none => none

/-! ### Regions whose order is drawn -/
/-- As 'opEff', but a literal slice is a value. -/
def opEffD (P : Program) (h : HF) (env : Env) (o : Oper) : Option Eff :=
  match o.op with
  | .buildSlice t len ps => match (parts env ps.toList).bind (buildS P h t len) with
    | some ⟨fr, .new (.arr _ sz xs _) _⟩ => some ⟨fr, .lit (.csl sz xs)⟩
    | _ => none
  | _ => opEff P h env o
/-- What comes before each operation, as bits. -/
def maskOf (ms : List Nat) : List Edge → Nat → Nat
  | [], acc => acc
  | e :: r, acc => maskOf ms r (if Region.binds .any e then acc ||| 2 ^ e.on ||| (ms[e.on]?).getD 0 else acc)
def masksFrom : List Oper → List Nat → List Nat
  | [], ms => ms
  | o :: r, ms => masksFrom r (ms ++ [maskOf ms o.after.toList 0])
def edgesOk (i : Nat) (l : List Edge) : Bool := l.all fun e => !Region.binds .any e || e.on < i
/-- Which operation sets a slot. -/
def setters (t : Nat) : Nat → List Oper → List Nat
  | _, [] => []
  | i, o :: r => if o.dst = some t then i :: setters t (i + 1) r else setters t (i + 1) r
def opOk (ops : List Oper) (ms : List Nat) (i : Nat) (o : Oper) : Bool :=
  edgesOk i o.after.toList && (o.op matches .select .. | .go .. | .defer ..) == false &&
  (o.looksAt ops.toArray).all (fun t => (setters t 0 ops).all fun j => ((ms[i]?).getD 0).testBit j || ((ms[j]?).getD 0).testBit i) &&
  match o.dst with
  | some d => setters d 0 ops == [i]
  | none => true
def regionOkGo (ops : List Oper) (ms : List Nat) : Nat → List Oper → Bool
  | _, [] => true
  | i, o :: r => opOk ops ms i o && regionOkGo ops ms (i + 1) r
def masks (ops : List Oper) : List Nat := masksFrom ops []
def regionOk (ops : List Oper) : Bool := regionOkGo ops (masks ops) 0 ops
/-- Boxes that are made first: nothing comes before them. -/
def isEarly (ms : List Nat) (i : Nat) (o : Oper) : Bool := match o.op, o.guard with
  | .alloc _, none => (ms[i]?).getD 0 == 0 && o.dst.isSome
  | _, _ => false
def earlyGo (C : Cfg) (ms : List Nat) : Nat → List Oper → Env → Heap → Option (Env × Heap)
  | _, [], env, H => some (env, H)
  | i, o :: r, env, H => if isEarly ms i o then
      match opEff C.P (get H) env o with
      | some ⟨_, .new b none⟩ => earlyGo C ms (i + 1) r (bindD env o.dst (.ptr H.length 0)) (H ++ [b])
      | _ => none
    else earlyGo C ms (i + 1) r env H
def noRow : AV → Bool
  | .d _ | .csl _ _ => true
  | .agg cs => cs.all fun | .d _ | .csl _ _ => true | _ => false
  | _ => false
/-- The object that an operation reads ('none': whatever it may be). -/
def readId (env : Env) (o : Oper) : Option (Option Nat) :=
  match o.op with
  | .load _ p => match opd env p with
    | some (.ptr k _) | some (.ap k _ _ _) => some (some k)
    | some (.dp _) => some none
    | _ => none
  | .indexAddr _ x _ => match opd env x with
    | some (.osl k _) => some (some k)
    | some (.d _) | some (.csl _ _) | some (.bsl _ _) => some none
    | _ => none
  | .buildSlice _ _ ps => match parts env ps.toList with
    | some vs => if vs.all fun p => noRow p.2 then some none else none
    | none => none
  | .move _ | .assign _ | .pick .. | .build .. | .nilCheck _ | .binOp .. | .unOp .. | .convert .. | .makeFunc .. | .fieldAddr .. | .field .. | .index .. | .extract .. => some none
  | _ => none
inductive Rc where
  | un
  | q (h : Option (Option Nat))
  | c (t : Option (Option Nat)) (len : Nat)
def apart1 (h t : Option (Option Nat)) : Bool :=
  match h, t with
  | some none, _ => true
  | some (some k), some none => true
  | some (some k), some (some k') => k != k'
  | _, _ => false
def apart2 (h t : Option (Option Nat)) (len : Nat) : Bool :=
  apart1 h t && match h with
  | some (some k) => k < len
  | _ => true
def pairOk (i : Nat) (ri : Rc) (mj : Nat) (rj : Rc) : Bool :=
  match ri, rj with
  | .un, _ | _, .un => true
  | .q _, .q _ => true
  | .c _ _, .c _ _ => mj.testBit i
  | .q h, .c t n => apart2 h t n || mj.testBit i
  | .c t n, .q h => apart2 h t n || mj.testBit i
def touch (C : Cfg) (H : Heap) : Act1 → Option (Option Nat)
  | .wr k _ _ => some (some k)
  | .call f args => match (if C.shared f then none else listM (toV (get H) 3) args) with
    | some _ => some none
    | none => if C.reader f then some none else none
  | _ => some none
def quiet (e : Eff) : Option AV :=
  match e with
  | ⟨[], .ret v⟩ | ⟨[], .lit v⟩ => some v
  | _ => none
abbrev Item := Nat × Oper
/-- One operation where orders are drawn. -/
def itemEff (C : Cfg) (callE : CallE) (ops : List Oper) (o : Oper) (env : Env) (H : Heap) : Option (AV × Heap × Rc) :=
  match guardOk ops env o with
  | some false => some (.un, H, .un)
  | some true => match opEffD C.P (get H) env o with
    | some e => match quiet e with
      | some v => some (v, H, .q (readId env o))
      | none => match apply C callE H e with
        | some (v, H') => some (v, H', .c (touch C (freezeAll H e.frz) e.act) H.length)
        | none => none
    | none => none
  | none => none
def drawGo (C : Cfg) (callE : CallE) (ops : List Oper) (ms : List Nat) : List Item → List (Nat × Rc) → Env → Heap → Option (Env × Heap)
  | [], _, env, H => some (env, H)
  | (i, o) :: r, rs, env, H => match itemEff C callE ops o env H with
    | some (v, H', rc) => if rs.all fun p => pairOk p.1 p.2 ((ms[i]?).getD 0) rc then drawGo C callE ops ms r ((i, rc) :: rs) (bindD env o.dst v) H' else none
    | none => none
def restItems (ms : List Nat) : Nat → List Oper → List Item
  | _, [] => []
  | i, o :: r => if isEarly ms i o then restItems ms (i + 1) r else (i, o) :: restItems ms (i + 1) r
def runDraw (C : Cfg) (callE : CallE) (ops : List Oper) (env : Env) (H : Heap) : Option (Env × Heap) :=
  if C.P.follows .mixedOrders && regionOk ops then
    match earlyGo C (masks ops) 0 ops env H with
    | some (env, H) => drawGo C callE ops (masks ops) (restItems (masks ops) 0 ops) [] env H
    | none => none
  else none

/-! ### Code -/
inductive AX where
  | normal | exit (id : Nat) | ret
  deriving Inhabited
abbrev St := AX × Env × Heap

def keysOf : Env → List Nat → List Nat
  | [], acc => acc.reverse
  | (t, _) :: r, acc => if t ∈ acc then keysOf r acc else keysOf r (t :: acc)
def restrict (env : Env) : List Nat → Env
  | [] => []
  | t :: r => match lookup env t with
    | some v => (t, v) :: restrict env r
    | none => restrict env r

/-- One level of the code; 'again ks c' goes on with a loop (the slots ks are carried), 'callE' enters a function. -/
def dstsOk (nt : Nat) (ops : List Oper) : Bool := ops.all fun o => match o.dst with | some d => d < nt | none => true
def evalC (C : Cfg) (callE : CallE) (nt : Nat) (again : List Nat → Code → Env → Heap → Option St) : Code → Env → Heap → Option St
  | .skip, env, H => some (.normal, env, H)
  | .region _ ops draw, env, H => if !dstsOk nt ops.toList then none else
    match (if draw then runDraw C callE ops.toList env H else runOps C callE ops.toList ops.toList env H) with
    | some (env, H) => some (.normal, env, H)
    | none => none
  | .seq a b, env, H => match evalC C callE nt again a env H with
    | some (.normal, env, H) => evalC C callE nt again b env H
    | r => r
  | .cond c a b, env, H => match opd env c with
    | some (.d (.sc (.bool true))) => evalC C callE nt again a env H
    | some (.d (.sc (.bool false))) => evalC C callE nt again b env H
    | _ => none
  | .block id c, env, H => match evalC C callE nt again c env H with
    | some (.exit j, env, H) => if j = id then some (.normal, env, H) else some (.exit j, env, H)
    | r => r
  | .loop c, env, H => again (keysOf env []) c env H
  | .exit id, env, H => some (.exit id, env, H)
  | .ret, env, H => some (.ret, env, H)
  | _, _, _ => none

def result1 (P : Program) (H : Heap) (env : Env) : ResultVar → Option AV
  | .tmp t => lookup env t
  | .cell a t => (lookup env a).bind (loadAV P (get H) t)
def resultsL (P : Program) (H : Heap) (env : Env) : List ResultVar → Option (List AV)
  | [] => some []
  | r :: rs => match result1 P H env r with
    | some v => match resultsL P H env rs with
      | some vs => some (v :: vs)
      | none => none
    | none => none
def resultAV (P : Program) (H : Heap) (env : Env) (rs : List ResultVar) : Option AV :=
  match resultsL P H env rs with
  | some [v] => some v
  | some vs => some (.tup vs)
  | none => none

def envOf : Nat → List AV → Env
  | _, [] => []
  | i, v :: r => (i, v) :: envOf (i + 1) r

mutual
def callN (C : Cfg) : Nat → CallE
  | 0 => fun _ _ _ => none
  | n + 1 => fun f args H =>
    match C.intr f with
    | some sem => sem args H
    | none => match C.P.funcs[f]? with
      | some fn => if fn.name == "runtime.NumGoroutine" then none else
        match fn.body with
        | some body => if args.length ≤ fn.ntmps then
            match evalC C (callN C n) fn.ntmps (againN C n fn.ntmps) body (envOf 0 args) H with
            | some (.normal, env, H) | some (.ret, env, H) => (resultAV C.P H env fn.results.toList).map fun v => (v, H)
            | _ => none
          else none
        | none => none
      | none => none
def againN (C : Cfg) : Nat → Nat → List Nat → Code → Env → Heap → Option St
  | 0 => fun _ _ _ _ _ => none
  | n + 1 => fun nt ks c env H =>
    match evalC C (callN C n) nt (againN C n nt) c (restrict env ks) H with
    | some (.normal, env, H) => againN C n nt ks c env H
    | r => r
end

end Go.AE
