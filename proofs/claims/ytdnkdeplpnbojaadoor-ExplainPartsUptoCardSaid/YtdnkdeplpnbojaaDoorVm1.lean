/- The abstract machine on plain data: definitions. Data, states, operations, the relation to the model's worlds; what a function's contract says. No condition. -/
import Derived.WalkKit
set_option linter.unusedVariables false
set_option linter.unusedSimpArgs false
set_option linter.unusedSectionVars false
namespace Go.VM
open Go Go.RowKit

/-- Plain data: what a value reads as. A slice is the list of its elements, each the list of its cells. -/
inductive D where
  | int (k : IntKind) (n : Int)
  | bool (b : Bool)
  | str (s : List UInt8)
  | nils
  | sl (es : List (List D))
  | agg (cs : List D)

/-- What a temporary holds. -/
inductive DV where
  | d (x : D)
  | undef
  | ptr (key off : Nat)
  | ep (cs : List D)
  | mp (key : Nat)
  | it (key : Nat)
  | tup (ds : List D)
  | fn (f : FuncId)
  | anyb

/-- The frame's own objects. -/
inductive AObj where
  | cells (cs : List D)
  | map (es : List (D × D))
  | iter (s : List UInt8) (pos : Nat)

inductive Loc where
  | t (i : Nat)
  | c (key off : Nat)
  deriving DecidableEq

/-- What an operation does to the ownership of a slice's spare places: nothing, one more holder, a new owned slice of this element type. -/
inductive OA where
  | no
  | al (l : Loc)
  | fresh (e : TypeId)

structure St where
  tmps : List DV
  H : List (Nat × AObj)
  own : List (TypeId × List Loc)

def D.one : D → Bool
  | .agg _ => false
  | _ => true
def D.cells : D → List D
  | .agg cs => cs
  | x => [x]

def ofScalar : Value → Option D
  | .int k n => some (.int k n)
  | .bool b => some (.bool b)
  | .string s => some (.str s.data.toList)
  | .slice none 0 0 => some .nils
  | _ => none
def ofScalars : List Value → Option (List D)
  | [] => some []
  | v :: l => match ofScalar v, ofScalars l with
    | some x, some ds => some (x :: ds)
    | _, _ => none
def ofConst : Value → DV
  | .agg cs => match ofScalars cs.toList with
    | some ds => .d (.agg ds)
    | none => .undef
  | v => match ofScalar v with
    | some x => .d x
    | none => .undef

/-- The package-level variables whose cells are known. -/
abbrev GT := Nat → Option (List D)

def St.eval (G : GT) (st : St) : Operand → DV
  | .tmp t => st.tmps.getD t (.tup [])
  | .const v => ofConst v
  | .global g => match G g with
    | some cs => .ep cs
    | none => .undef
  | .func f => .fn f

def getKey (k : Nat) : List (Nat × AObj) → Option AObj
  | [] => none
  | (k', o) :: r => if k' = k then some o else getKey k r
def setKey (k : Nat) (o : AObj) : List (Nat × AObj) → List (Nat × AObj)
  | [] => [(k, o)]
  | (k', o') :: r => if k' = k then (k, o) :: r else (k', o') :: setKey k o r

def killRef (key : Nat) : DV → DV
  | .ptr k o => if k = key then .undef else .ptr k o
  | .mp k => if k = key then .undef else .mp k
  | .it k => if k = key then .undef else .it k
  | x => x

def dropLoc (l : Loc) (own : List (TypeId × List Loc)) : List (TypeId × List Loc) := own.map fun c => (c.1, c.2.filter fun x => decide (x ≠ l))
def Loc.ofKey (key : Nat) : Loc → Bool
  | .c k _ => k == key
  | _ => false
def dropKey (key : Nat) (own : List (TypeId × List Loc)) : List (TypeId × List Loc) := own.map fun c => (c.1, c.2.filter fun x => !x.ofKey key)
def addAlias (src dst : Loc) (own : List (TypeId × List Loc)) : List (TypeId × List Loc) := own.map fun c => if c.2.contains src then (c.1, dst :: c.2) else c
/-- 'dst' is written: it holds what 'act' says. -/
def ownAct (dst : Loc) (act : OA) (own : List (TypeId × List Loc)) : List (TypeId × List Loc) :=
  match act with
  | .no => dropLoc dst own
  | .al l => if l = dst then own else addAlias l dst (dropLoc dst own)
  | .fresh e => (e, [dst]) :: dropLoc dst own

def finish (st : St) (dst : Option Tmp) (v : DV) (act : OA) : St :=
  match dst with
  | none => st
  | some d => { st with tmps := st.tmps.set d v, own := ownAct (.t d) act st.own }

/-- A new object under the key 'key': what the elder one was is forgotten. -/
def newObjAt (st : St) (key : Nat) (o : AObj) : St :=
  { tmps := st.tmps.map (killRef key), H := setKey key o st.H, own := dropKey key st.own }

/-! ### Types -/

def descAgg : TypeDesc → Bool
  | .struct _ | .array _ _ => true
  | _ => false
/-- A variable of type t that begins a run of cells. -/
def takeD (P : Program) (t : TypeId) (cs : List D) : Option D :=
  match P.underlying t with
  | some d => if descAgg d then (if P.cellsOf t ≤ cs.length then some (.agg (cs.take (P.cellsOf t))) else none) else cs.head?
  | none => none
def zeroD (P : Program) (t : TypeId) : Option (List D) := ((P.info? t).bind (·.zero)).bind fun z => ofScalars z.cells.toList
def elemOfD (P : Program) (t : TypeId) : Option TypeId :=
  match P.underlying t with
  | some (.slice e) => some e
  | _ => none
def fieldOf (P : Program) (t : TypeId) (i : Nat) : Option (Nat × TypeId) :=
  match P.underlying t with
  | some (.struct fs) => (fs[i]?).map fun f => (f.offset, f.type)
  | _ => none

/-! ### Operations on data -/

def dbin (op : BinOp) : D → D → Option D
  | .int k a, .int k' b =>
    if k ≠ k' then none else
    match op with
    | .add => some (.int k (k.wrap (a + b)))
    | .sub => some (.int k (k.wrap (a - b)))
    | .mul => some (.int k (k.wrap (a * b)))
    | .quo => if b = 0 then none else some (.int k (k.wrap (a.tdiv b)))
    | .rem => if b = 0 then none else some (.int k (a.tmod b))
    | .eql => some (.bool (a == b))
    | .neq => some (.bool (a != b))
    | .lss => some (.bool (decide (a < b)))
    | .leq => some (.bool (decide (a ≤ b)))
    | .gtr => some (.bool (decide (a > b)))
    | .geq => some (.bool (decide (a ≥ b)))
    | _ => none
  | .str a, .str b =>
    match op with
    | .add => if a.length + b.length ≤ 9223372036854775807 then some (.str (a ++ b)) else none
    | .eql => some (.bool (a == b))
    | .neq => some (.bool !(a == b))
    | .lss => some (.bool (Op.bytesLess a b))
    | .leq => some (.bool (Op.bytesLess a b || a == b))
    | .gtr => some (.bool !(Op.bytesLess a b || a == b))
    | .geq => some (.bool !(Op.bytesLess a b))
    | _ => none
  | _, _ => none

/-- '==' of two cells of scalar types. -/
def eqCell : D → D → Option Bool
  | .int k a, .int k' b => if k = k' then some (a == b) else none
  | .str a, .str b => some (a == b)
  | .bool a, .bool b => some (a == b)
  | _, _ => none
def eqCells : List D → List D → Option Bool
  | [], [] => some true
  | x :: xs, y :: ys => match eqCell x y, eqCells xs ys with
    | some a, some b => some (a && b)
    | _, _ => none
  | _, _ => none

def scalarDesc : TypeDesc → Bool
  | .bool | .int _ | .string => true
  | _ => false
/-- The fields' types, from place k on, each one cell of a scalar type. -/
def flatList (P : Program) : Nat → List Field → Option (List TypeDesc)
  | _, [] => some []
  | k, f :: fs => match P.underlying f.type, flatList P (k + 1) fs with
    | some d, some ds => if f.name ≠ "_" ∧ f.offset = k ∧ scalarDesc d = true then some (d :: ds) else none
    | _, _ => none
/-- A struct each of whose fields is one cell of a scalar type: those types. -/
def flatDescs (P : Program) (t : TypeId) : Option (List TypeDesc) :=
  match P.underlying t with
  | some (.struct fs) => if P.eqGuardType P.depth t = false ∧ P.stoodInHeld t = false then flatList P 0 fs.toList else none
  | _ => none
def fitDesc : TypeDesc → D → Bool
  | .int _, .int _ _ => true
  | .string, .str _ => true
  | .bool, .bool _ => true
  | _, _ => false
def fitDescs : List TypeDesc → List D → Bool
  | [], [] => true
  | d :: ds, x :: xs => fitDesc d x && fitDescs ds xs
  | _, _ => false

def dunary : UnOp → D → Option D
  | .neg, .int k n => some (.int k (k.wrap (0 - n)))
  | .not, .bool b => some (.bool !b)
  | _, _ => none

def overwrite (cells : List D) (off : Nat) (vs : List D) : List D := cells.take off ++ vs ++ cells.drop (off + vs.length)
def fillD (P : Program) (t : TypeId) (cells : List D) : List (Nat × D) → Option (List D)
  | [] => some cells
  | (i, v) :: rest =>
    match fieldOf P t i with
    | none => none
    | some (off, u) => if v.cells.length = P.cellsOf u ∧ off + v.cells.length ≤ cells.length then fillD P t (overwrite cells off v.cells) rest else none

def isD : DV → Option D
  | .d x => some x
  | _ => none
def allD : List DV → Option (List D)
  | [] => some []
  | .d x :: l => match allD l with
    | some ds => some (x :: ds)
    | none => none
  | _ :: _ => none
def partsD (G : GT) (st : St) : List (Nat × Operand) → Option (List (Nat × D))
  | [] => some []
  | (i, x) :: l => match st.eval G x, partsD G st l with
    | .d y, some ds => some ((i, y) :: ds)
    | _, _ => none

def tmpAct : Operand → OA
  | .tmp s => .al (.t s)
  | _ => .no

/-- An index within bounds. -/
def idx (x : D) (n : Nat) : Option Nat :=
  match x with
  | .int _ i => if 0 ≤ i ∧ i < n then some i.toNat else none
  | _ => none
def bound (x : D) (n : Nat) : Option Nat :=
  match x with
  | .int _ i => if 0 ≤ i ∧ i ≤ n then some i.toNat else none
  | _ => none
def optBound (G : GT) (st : St) (x : Option Operand) (dflt n : Nat) : Option Nat :=
  match x with
  | none => some dflt
  | some y => match st.eval G y with
    | .d z => bound z n
    | _ => none

structure Out where
  v : DV
  act : OA
  st : St

def findKeyD (k : D) : List (D × D) → Option (Option D)
  | [] => some none
  | (k', v) :: r => match eqCell k k' with
    | some true => some (some v)
    | some false => findKeyD k r
    | none => none
def setKeyD (k v : D) : List (D × D) → Option (List (D × D))
  | [] => some [(k, v)]
  | (k', v') :: r => match eqCell k k' with
    | some true => some ((k, v) :: r)
    | some false => match setKeyD k v r with
      | some r' => some ((k', v') :: r')
      | none => none
    | none => none
def delKeyD (k : D) : List (D × D) → Option (List (D × D))
  | [] => some []
  | (k', v') :: r => match eqCell k k' with
    | some true => some r
    | some false => match delKeyD k r with
      | some r' => some ((k', v') :: r')
      | none => none
    | none => none

end Go.VM
