/- Joined texts. The abstract machine on plain data: definitions. Data, states, operations, the relation to the model's worlds; what a function's contract says. The abstract machine on plain data: what each operation does. The abstract machine on plain data: how a state stands to the model's frame and world; what a contract says. The abstract machine on plain data: laws on states (a temporary is written, a block is new, an object is written, a callee has run). The abstract machine on plain data: each operation does in the model what it does on data. The abstract machine on plain data: the operations that leave the world alone. The abstract machine on plain data: the operations that leave the world alone, second part. The abstract machine on plain data: the operations that leave the world alone, third part. The abstract machine on plain data: slice expressions, look-ups in maps. The abstract machine on plain data: the operations that make or write objects. The abstract machine on plain data: new objects, maps, iterators. The abstract machine on plain data: slices are made and grown. The abstract machine on plain data: append. The abstract machine on plain data: calls that hand objects on. No condition. -/
import Derived.WalkKit
import Derived.Laws.StructEq
import Derived.Laws.Strings2
import Derived.MapKept
import Derived.Deep.AppendSrc
set_option linter.unusedVariables false
set_option linter.unusedSimpArgs false
set_option linter.unusedSectionVars false
namespace Go.VM
open Go Go.RowKit

/-- Plain data: what a value reads as. A slice is the list of its elements, each the list of its cells. -/
inductive D where
  | int (k : IntKind) (n : Int)
  | bool (b : Bool)
  | str (s : List UInt8)
  | nils
  | sl (es : List (List D))
  | agg (cs : List D)

/-- What a temporary holds. -/
inductive DV where
  | d (x : D)
  | undef
  | ptr (key off : Nat)
  | ep (cs : List D)
  | mp (key : Nat)
  | it (key : Nat)
  | tup (ds : List D)
  | fn (f : FuncId)
  | anyb
  | nilp (T : TypeId)
  | clo (f : FuncId) (caps : List DV)
  | ag (cs : List DV)

/-- The objects that the frame may write. -/
inductive AObj where
  | cells (cs : List DV)
  | map (es : List (D × D))
  | iter (s : List UInt8) (pos : Nat)
  | bld (T : TypeId) (u : Bool) (es : List (List D))

inductive Loc where
  | t (i : Nat)
  | c (key off : Nat)
  deriving DecidableEq

/-- What an operation does to the ownership of a slice's spare places: nothing, one more holder, a new owned slice of this element type. -/
inductive OA where
  | no
  | al (l : Loc)
  | fresh (e : TypeId)

structure St where
  tmps : List DV
  H : List (Nat × AObj)
  own : List (TypeId × List Loc)

def D.one : D → Bool
  | .agg _ => false
  | _ => true
def D.cells : D → List D
  | .agg cs => cs
  | x => [x]

def ofScalar : Value → Option D
  | .int k n => some (.int k n)
  | .bool b => some (.bool b)
  | .string s => some (.str s.data.toList)
  | .slice none 0 0 => some .nils
  | _ => none
def ofScalars : List Value → Option (List D)
  | [] => some []
  | v :: l => match ofScalar v, ofScalars l with
    | some x, some ds => some (x :: ds)
    | _, _ => none
def ofConst : Value → DV
  | .agg cs => match ofScalars cs.toList with
    | some ds => .d (.agg ds)
    | none => .undef
  | v => match ofScalar v with
    | some x => .d x
    | none => .undef

/-- The package-level variables whose cells are known. -/
abbrev GT := Nat → Option (List D)

def St.eval (G : GT) (st : St) : Operand → DV
  | .tmp t => st.tmps.getD t (.tup [])
  | .const v => ofConst v
  | .global g => match G g with
    | some cs => .ep cs
    | none => .undef
  | .func f => .fn f

def getKey (k : Nat) : List (Nat × AObj) → Option AObj
  | [] => none
  | (k', o) :: r => if k' = k then some o else getKey k r
def repKey (k : Nat) (o : AObj) : List (Nat × AObj) → List (Nat × AObj)
  | [] => []
  | (k', o') :: r => if k' = k then (k, o) :: r else (k', o') :: repKey k o r
def insKey (k : Nat) (o : AObj) : List (Nat × AObj) → List (Nat × AObj)
  | [] => [(k, o)]
  | (k', o') :: r => if k < k' then (k, o) :: (k', o') :: r else (k', o') :: insKey k o r
def setKey (k : Nat) (o : AObj) (H : List (Nat × AObj)) : List (Nat × AObj) := if (getKey k H).isSome then repKey k o H else insKey k o H

mutual
/-- Does a value name the object? -/
def mentions (key : Nat) : DV → Bool
  | .ptr k _ => k == key
  | .mp k => k == key
  | .it k => k == key
  | .clo _ cs => mentionsAny key cs
  | .ag cs => mentionsAny key cs
  | _ => false
def mentionsAny (key : Nat) : List DV → Bool
  | [] => false
  | d :: r => mentions key d || mentionsAny key r
end
def killRef (key : Nat) (d : DV) : DV := if mentions key d then .undef else d
def killObj (key : Nat) : AObj → AObj
  | .cells cs => .cells (cs.map (killRef key))
  | o => o

def dropLoc (l : Loc) (own : List (TypeId × List Loc)) : List (TypeId × List Loc) := own.map fun c => (c.1, c.2.filter fun x => decide (x ≠ l))
def Loc.ofKey (key : Nat) : Loc → Bool
  | .c k _ => k == key
  | _ => false
def dropKey (key : Nat) (own : List (TypeId × List Loc)) : List (TypeId × List Loc) := own.map fun c => (c.1, c.2.filter fun x => !x.ofKey key)
def addAlias (src dst : Loc) (own : List (TypeId × List Loc)) : List (TypeId × List Loc) := own.map fun c => if c.2.contains src then (c.1, dst :: c.2) else c
/-- 'dst' is written: it holds what 'act' says. -/
def ownAct (dst : Loc) (act : OA) (own : List (TypeId × List Loc)) : List (TypeId × List Loc) :=
  match act with
  | .no => dropLoc dst own
  | .al l => if l = dst then own else addAlias l dst (dropLoc dst own)
  | .fresh e => (e, [dst]) :: dropLoc dst own

def finish (st : St) (dst : Option Tmp) (v : DV) (act : OA) : St :=
  match dst with
  | none => st
  | some d => { st with tmps := st.tmps.set d v, own := ownAct (.t d) act st.own }

/-- A new object under the key 'key': what the elder one was is forgotten. -/
def newObjAt (st : St) (key : Nat) (o : AObj) : St :=
  { tmps := st.tmps.map (killRef key), H := setKey key o (st.H.map fun p => (p.1, killObj key p.2)), own := dropKey key st.own }

/-! ### Types -/

def descAgg : TypeDesc → Bool
  | .struct _ | .array _ _ => true
  | _ => false
/-- A variable of type t that begins a run of cells. -/
def takeD (P : Program) (t : TypeId) (cs : List D) : Option D :=
  match P.underlying t with
  | some d => if descAgg d then (if P.cellsOf t ≤ cs.length then some (.agg (cs.take (P.cellsOf t))) else none) else cs.head?
  | none => none
def isNilP : Value → Bool
  | .pointer none => true
  | _ => false
def cellOf (v : Value) : DV := match ofScalar v with
  | some x => .d x
  | none => .undef
/-- A zero cell of a variable of type t: that a pointer in it is nil says t, too. -/
def cellN (t : TypeId) (v : Value) : DV := match ofScalar v with
  | some x => .d x
  | none => if isNilP v then .nilp t else .undef
/-- The zero cells of a type: those that are no data are not known. -/
def zeroC (P : Program) (t : TypeId) : Option (List DV) := ((P.info? t).bind (·.zero)).map fun z => z.cells.toList.map (cellN t)
def zeroD (P : Program) (t : TypeId) : Option (List D) := ((P.info? t).bind (·.zero)).bind fun z => ofScalars z.cells.toList
/-- The zero cells of a type, each one cell. -/
def zeroO (P : Program) (t : TypeId) : Option (List DV) := ((P.info? t).bind (·.zero)).bind fun z => if z.cells.toList.all (·.oneCell') then some (z.cells.toList.map cellOf) else none
/-- A new object with these zero cells: a pointer to itself and a slice make a builder. -/
def zObj : List DV → AObj
  | [.nilp T, .d .nils] => .bld T false []
  | cs => .cells cs
def elemOfD (P : Program) (t : TypeId) : Option TypeId :=
  match P.underlying t with
  | some (.slice e) => some e
  | _ => none
def fieldOf (P : Program) (t : TypeId) (i : Nat) : Option (Nat × TypeId) :=
  match P.underlying t with
  | some (.struct fs) => (fs[i]?).map fun f => (f.offset, f.type)
  | _ => none

/-! ### Operations on data -/

def dbin (op : BinOp) : D → D → Option D
  | .int k a, .int k' b =>
    if k ≠ k' then none else
    match op with
    | .add => some (.int k (k.wrap (a + b)))
    | .sub => some (.int k (k.wrap (a - b)))
    | .mul => some (.int k (k.wrap (a * b)))
    | .quo => if b = 0 then none else some (.int k (k.wrap (a.tdiv b)))
    | .rem => if b = 0 then none else some (.int k (a.tmod b))
    | .eql => some (.bool (a == b))
    | .neq => some (.bool (a != b))
    | .lss => some (.bool (decide (a < b)))
    | .leq => some (.bool (decide (a ≤ b)))
    | .gtr => some (.bool (decide (a > b)))
    | .geq => some (.bool (decide (a ≥ b)))
    | _ => none
  | .str a, .str b =>
    match op with
    | .add => if a.length + b.length ≤ 9223372036854775807 then some (.str (a ++ b)) else none
    | .eql => some (.bool (a == b))
    | .neq => some (.bool !(a == b))
    | .lss => some (.bool (Op.bytesLess a b))
    | .leq => some (.bool (Op.bytesLess a b || a == b))
    | .gtr => some (.bool !(Op.bytesLess a b || a == b))
    | .geq => some (.bool !(Op.bytesLess a b))
    | _ => none
  | _, _ => none

/-- '==' of two cells of scalar types. -/
def eqCell : D → D → Option Bool
  | .int k a, .int k' b => if k = k' then some (a == b) else none
  | .str a, .str b => some (a == b)
  | .bool a, .bool b => some (a == b)
  | _, _ => none
def eqCells : List D → List D → Option Bool
  | [], [] => some true
  | x :: xs, y :: ys => match eqCell x y, eqCells xs ys with
    | some a, some b => some (a && b)
    | _, _ => none
  | _, _ => none

def scalarDesc : TypeDesc → Bool
  | .bool | .int _ | .string => true
  | _ => false
/-- The fields' types, from place k on, each one cell of a scalar type. -/
def flatList (P : Program) : Nat → List Field → Option (List TypeDesc)
  | _, [] => some []
  | k, f :: fs => match P.underlying f.type, flatList P (k + 1) fs with
    | some d, some ds => if f.name ≠ "_" ∧ f.offset = k ∧ scalarDesc d = true then some (d :: ds) else none
    | _, _ => none
/-- A struct each of whose fields is one cell of a scalar type: those types. -/
def flatDescs (P : Program) (t : TypeId) : Option (List TypeDesc) :=
  match P.underlying t with
  | some (.struct fs) => if P.eqGuardType P.depth t = false ∧ P.stoodInHeld t = false then flatList P 0 fs.toList else none
  | _ => none
def fitDesc : TypeDesc → D → Bool
  | .int _, .int _ _ => true
  | .string, .str _ => true
  | .bool, .bool _ => true
  | _, _ => false
def fitDescs : List TypeDesc → List D → Bool
  | [], [] => true
  | d :: ds, x :: xs => fitDesc d x && fitDescs ds xs
  | _, _ => false

def dunary : UnOp → D → Option D
  | .neg, .int k n => some (.int k (k.wrap (0 - n)))
  | .not, .bool b => some (.bool !b)
  | _, _ => none

def overwrite {α : Type} (cells : List α) (off : Nat) (vs : List α) : List α := cells.take off ++ vs ++ cells.drop (off + vs.length)
def fillD (P : Program) (t : TypeId) (cells : List D) : List (Nat × D) → Option (List D)
  | [] => some cells
  | (i, v) :: rest =>
    match fieldOf P t i with
    | none => none
    | some (off, u) => if v.cells.length = P.cellsOf u ∧ off + v.cells.length ≤ cells.length then fillD P t (overwrite cells off v.cells) rest else none

def isD : DV → Option D
  | .d x => some x
  | _ => none
def allD : List DV → Option (List D)
  | [] => some []
  | .d x :: l => match allD l with
    | some ds => some (x :: ds)
    | none => none
  | _ :: _ => none
/-- A value of one cell. -/
def DV.cell : DV → Bool
  | .d x => x.one
  | .it _ => false
  | .tup _ => false
  | .ag _ => false
  | _ => true
def noNil : DV → Bool
  | .nilp _ => false
  | _ => true
/-- The cells of a value that can be stored. -/
def vcells : DV → Option (List DV)
  | .d y => some (y.cells.map .d)
  | .ptr k o => some [.ptr k o]
  | .ep cs => some [.ep cs]
  | .mp k => some [.mp k]
  | .fn f => some [.fn f]
  | .clo f cs => some [.clo f cs]
  | .ag cs => if cs.all noNil then some cs else none
  | .anyb => some [.anyb]
  | _ => none
/-- A value of one known cell. -/
def solid : DV → Bool
  | .undef => false
  | .nilp _ => false
  | c => c.cell
/-- The value that cells make. -/
def takeA (cs : List DV) : Option DV := match allD cs with
  | some ds => some (.d (.agg ds))
  | none => if cs.all solid then some (.ag cs) else none
/-- A variable of type t that begins a run of cells of an object. -/
def takeV (P : Program) (t : TypeId) (cs : List DV) : Option DV :=
  match P.underlying t with
  | some d => if descAgg d then (if P.cellsOf t ≤ cs.length then takeA (cs.take (P.cellsOf t)) else none) else cs.head?
  | none => none
def partsD (G : GT) (st : St) : List (Nat × Operand) → Option (List (Nat × D))
  | [] => some []
  | (i, x) :: l => match st.eval G x, partsD G st l with
    | .d y, some ds => some ((i, y) :: ds)
    | _, _ => none

def partsV (G : GT) (st : St) : List (Nat × Operand) → Option (List (Nat × List DV))
  | [] => some []
  | (i, x) :: l => match vcells (st.eval G x), partsV G st l with
    | some y, some ds => some ((i, y) :: ds)
    | _, _ => none
def fillV (P : Program) (t : TypeId) (cells : List DV) : List (Nat × List DV) → Option (List DV)
  | [] => some cells
  | (i, v) :: rest =>
    match fieldOf P t i with
    | none => none
    | some (off, u) => if v.length = P.cellsOf u ∧ off + v.length ≤ cells.length then fillV P t (overwrite cells off v) rest else none

def tmpAct : Operand → OA
  | .tmp s => .al (.t s)
  | _ => .no

/-- An index within bounds. -/
def idx (x : D) (n : Nat) : Option Nat :=
  match x with
  | .int _ i => if 0 ≤ i ∧ i < n then some i.toNat else none
  | _ => none
def bound (x : D) (n : Nat) : Option Nat :=
  match x with
  | .int _ i => if 0 ≤ i ∧ i ≤ n then some i.toNat else none
  | _ => none
def optBound (G : GT) (st : St) (x : Option Operand) (dflt n : Nat) : Option Nat :=
  match x with
  | none => some dflt
  | some y => match st.eval G y with
    | .d z => bound z n
    | _ => none

structure Out where
  v : DV
  act : OA
  st : St

def findKeyD (k : D) : List (D × D) → Option (Option D)
  | [] => some none
  | (k', v) :: r => match eqCell k k' with
    | some true => some (some v)
    | some false => findKeyD k r
    | none => none
def setKeyD (k v : D) : List (D × D) → Option (List (D × D))
  | [] => some [(k, v)]
  | (k', v') :: r => match eqCell k k' with
    | some true => some ((k, v) :: r)
    | some false => match setKeyD k v r with
      | some r' => some ((k', v') :: r')
      | none => none
    | none => none
def delKeyD (k : D) : List (D × D) → Option (List (D × D))
  | [] => some []
  | (k', v') :: r => match eqCell k k' with
    | some true => some r
    | some false => match delKeyD k r with
      | some r' => some ((k', v') :: r')
      | none => none
    | none => none

end Go.VM

set_option linter.unusedVariables false
set_option linter.unusedSimpArgs false
set_option linter.unusedSectionVars false
namespace Go.VM
open Go Go.RowKit
section
variable (P : Program) (G : GT)

/-- Only slices are owned. -/
def slAct (v : DV) (a : OA) : OA :=
  match v with
  | .d (.sl _) => a
  | _ => .no
def vMove (x : Operand) (st : St) : Option Out := some ⟨st.eval G x, slAct (st.eval G x) (tmpAct x), st⟩
def vPick (c a b : Operand) (st : St) : Option Out :=
  match st.eval G c with
  | .d (.bool t) => some ⟨if t then st.eval G a else st.eval G b, .no, st⟩
  | _ => none
def vAlloc (dst : Option Tmp) (e : TypeId) (st : St) : Option Out :=
  match dst, zeroD P e with
  | some d, some cs => if d < 100000 then some ⟨.ptr d 0, .no, newObjAt st d (.cells (cs.map .d))⟩ else none
  | some d, none =>
    match zeroC P e with
    | some cs => if d < 100000 then some ⟨.ptr d 0, .no, newObjAt st d (zObj cs)⟩ else none
    | none => none
  | _, _ => none
def vBox (dst : Option Tmp) (x : Operand) (st : St) : Option Out :=
  match dst, vcells (st.eval G x) with
  | some d, some cs => if decide (d < 100000) && (cs.all fun c => !mentions d c) then some ⟨.ptr d 0, .no, newObjAt st d (.cells cs)⟩ else none
  | _, _ => none
def vMakeFunc (fn : Fn) (first captured : Array Operand) (st : St) : Option Out :=
  match fn with
  | .func f => if first.isEmpty then some ⟨if captured.isEmpty then .fn f else .clo f (captured.toList.map (st.eval G)), .no, st⟩ else none
  | _ => none
def isStruct (t : TypeId) : Bool :=
  match P.underlying t with
  | some (.struct fs) => fs.toList.all fun f => (P.info? f.type).isSome
  | _ => false
def vBuildC (t : TypeId) (parts : Array (Nat × Operand)) (st : St) : Option Out :=
  match zeroO P t, partsV G st parts.toList with
  | some z, some ps => (fillV P t z ps).map fun cs => ⟨.ag cs, .no, st⟩
  | _, _ => none
def vBuild (t : TypeId) (parts : Array (Nat × Operand)) (st : St) : Option Out :=
  if isStruct P t then
    match zeroD P t, partsD G st parts.toList with
    | some z, some ps => (fillD P t z ps).map fun cs => ⟨.d (.agg cs), .no, st⟩
    | _, _ => vBuildC P G t parts st
  else none
/-- A type that slices of it can be made and appended to. -/
def elemOk (e : TypeId) : Bool :=
  match P.info? e with
  | some i => decide (0 < i.size) && (match i.zero with | some z => z.cells.size == i.size | none => false)
  | none => false
def vBuildSlice (t : TypeId) (len : Nat) (parts : Array (Nat × Operand)) (st : St) : Option Out :=
  match elemOfD P t, partsD G st parts.toList with
  | some e, some ps =>
    if elemOk P e && (ps.map (·.1) == List.range len) && (ps.all fun p => p.2.cells.length == P.cellsOf e) && decide (len * P.cellsOf e ≤ 2 ^ 24) then
      some ⟨.d (.sl (ps.map fun p => p.2.cells)), .fresh e, st⟩
    else none
  | _, _ => none
def vLoad (t : TypeId) (x : Operand) (st : St) : Option Out :=
  match st.eval G x with
  | .ptr k off =>
    match getKey k st.H with
    | some (.cells cs) => (takeV P t (cs.drop off)).map fun y => ⟨y, slAct y (.al (.c k off)), st⟩
    | _ => none
  | .ep cs => (takeD P t cs).map fun y => ⟨.d y, .no, st⟩
  | _ => none
def vStore (t : TypeId) (a x : Operand) (st : St) : Option Out :=
  match st.eval G a, vcells (st.eval G x) with
  | .ptr k off, some ys =>
    match getKey k st.H with
    | some (.cells cs) =>
      if ys.length = P.cellsOf t ∧ P.cellsOf t ≠ 0 ∧ off + ys.length ≤ cs.length then
        some ⟨.tup [], .no, { st with H := setKey k (.cells (overwrite cs off ys)) st.H, own := if (st.eval G x).cell then ownAct (.c k off) (slAct (st.eval G x) (tmpAct x)) st.own else dropKey k st.own }⟩
      else none
    | _ => none
  | _, _ => none
def vNilCheck (x : Operand) (st : St) : Option Out :=
  match st.eval G x with
  | .ptr k off => some ⟨.ptr k off, .no, st⟩
  | .ep cs => some ⟨.ep cs, .no, st⟩
  | .fn f => some ⟨.fn f, .no, st⟩
  | .clo f cs => some ⟨.clo f cs, .no, st⟩
  | _ => none
def dbinT (op : BinOp) (t : TypeId) (a b : D) : Option D :=
  match a, b with
  | .bool x, .bool y =>
    match P.underlying t, op with
    | some .bool, .eql => some (.bool (x == y))
    | some .bool, .neq => some (.bool !(x == y))
    | _, _ => none
  | .agg xs, .agg ys =>
    match flatDescs P t with
    | some ds =>
      if fitDescs ds xs then
        match op, eqCells xs ys with
        | .eql, some r => some (.bool r)
        | .neq, some r => some (.bool !r)
        | _, _ => none
      else none
    | none => none
  | a, b => dbin op a b
def vBin (op : BinOp) (t : TypeId) (x y : Operand) (st : St) : Option Out :=
  match st.eval G x, st.eval G y with
  | .d a, .d b => (dbinT P op t a b).map fun c => ⟨.d c, .no, st⟩
  | _, _ => none
/-- The literal nil of a slice. -/
def isNilC : Operand → Bool
  | .const (.slice none 0 0) => true
  | _ => false
/-- A slice and nil: for an empty one the answer is not known. -/
def vNilTest (op : BinOp) (t : TypeId) (x : Operand) (st : St) : Option Out :=
  match P.underlying t, op, st.eval G x with
  | some (.slice _), .eql, .d (.sl es) => some ⟨if es.length = 0 then .anyb else .d (.bool false), .no, st⟩
  | some (.slice _), .neq, .d (.sl es) => some ⟨if es.length = 0 then .anyb else .d (.bool true), .no, st⟩
  | some (.slice _), .eql, .d .nils => some ⟨.anyb, .no, st⟩
  | some (.slice _), .neq, .d .nils => some ⟨.anyb, .no, st⟩
  | _, _, _ => none
def vBinN (op : BinOp) (t : TypeId) (x y : Operand) (st : St) : Option Out := if isNilC y then vNilTest P G op t x st else vBin P G op t x y st
def vUn (op : UnOp) (x : Operand) (st : St) : Option Out :=
  match st.eval G x with
  | .d a => (dunary op a).map fun c => ⟨.d c, .no, st⟩
  | _ => none
def bytesOfEs : List (List D) → Option (List UInt8)
  | [] => some []
  | [.int .u8 n] :: l => (bytesOfEs l).map fun bs => UInt8.ofNat n.toNat :: bs
  | _ => none
def isU8 (e : TypeId) : Bool :=
  match P.underlying e with
  | some (.int .u8) => true
  | _ => false
def dconv (src dst : TypeId) (a : D) : Option D :=
  match P.underlying src, P.underlying dst, a with
  | some _, some (.int k), .int _ n => some (.int k (k.wrap n))
  | some _, some .string, .str s => some (.str s)
  | some (.slice e), some .string, .sl es => if isU8 P e then (bytesOfEs es).map .str else none
  | some (.slice e), some .string, .nils => if isU8 P e then some (.str []) else none
  | _, _, _ => none
def vConv (src dst : TypeId) (x : Operand) (st : St) : Option Out :=
  match st.eval G x with
  | .d a => (dconv P src dst a).map fun c => ⟨.d c, .no, st⟩
  | _ => none
def vMakeMap (dst : Option Tmp) (r : Option Operand) (st : St) : Option Out :=
  match dst, r with
  | some d, none => if d < 100000 then some ⟨.mp d, .no, newObjAt st d (.map [])⟩ else none
  | _, _ => none
def zeroValD (t : TypeId) : Option D := ((P.info? t).bind (·.zero)).bind fun z => isD (ofConst z)
def mapOf (t : TypeId) : Option (TypeId × TypeId) :=
  match P.underlying t with
  | some (.map k e) => (match P.underlying k with | some d => if scalarDesc d then some (k, e) else none | none => none)
  | _ => none
def keyFits (t : TypeId) (k : D) : Bool :=
  match P.underlying t with
  | some d => fitDesc d k
  | none => false
def vLookup (t : TypeId) (m k : Operand) (ok : Bool) (st : St) : Option Out :=
  match mapOf P t, st.eval G m, st.eval G k with
  | some (kt, e), .mp key, .d kk =>
    match getKey key st.H, zeroValD P e, keyFits P kt kk with
    | some (.map es), some z, true => (findKeyD kk es).map fun r => ⟨if ok then .tup [r.getD z, .bool r.isSome] else .d (r.getD z), .no, st⟩
    | _, _, _ => none
  | _, _, _ => none
def vMapUpdate (t : TypeId) (m k v : Operand) (st : St) : Option Out :=
  match mapOf P t, st.eval G m, st.eval G k, st.eval G v with
  | some (kt, _), .mp key, .d kk, .d x =>
    match getKey key st.H, keyFits P kt kk with
    | some (.map es), true => (setKeyD kk x es).map fun es' => ⟨.tup [], .no, { st with H := setKey key (.map es') st.H }⟩
    | _, _ => none
  | _, _, _, _ => none
def vExtract (x : Operand) (i : Nat) (st : St) : Option Out :=
  match st.eval G x with
  | .tup ds => (ds[i]?).map fun y => ⟨.d y, .no, st⟩
  | _ => none
def vField (t : TypeId) (x : Operand) (i : Nat) (st : St) : Option Out :=
  match st.eval G x, fieldOf P t i with
  | .d (.agg cs), some (off, u) => (takeD P u (cs.drop off)).map fun y => ⟨.d y, .no, st⟩
  | _, _ => none
def vIndex (t : TypeId) (x i : Operand) (st : St) : Option Out :=
  match P.underlying t, st.eval G x, st.eval G i with
  | some .string, .d (.str s), .d n => (idx n s.length).bind fun j => (s[j]?).map fun b => ⟨.d (.int .u8 b.toNat), .no, st⟩
  | some (.array len e), .d (.agg cs), .d n => (idx n len).bind fun j => (takeD P e (cs.drop (j * P.cellsOf e))).map fun y => ⟨.d y, .no, st⟩
  | _, _, _ => none
def vIndexAddr (t : TypeId) (x i : Operand) (st : St) : Option Out :=
  match P.underlying t, st.eval G x, st.eval G i with
  | some (.slice e), .d (.sl es), .d n => (idx n es.length).bind fun j => (es[j]?).bind fun cs => if cs.length = P.cellsOf e then some ⟨.ep cs, .no, st⟩ else none
  | some (.array len e), .ptr k off, .d n => if P.cellsOf e = 0 then none else (idx n len).map fun j => ⟨.ptr k (off + j * P.cellsOf e), .no, st⟩
  | some (.array len e), .ep cs, .d n => if P.cellsOf e = 0 then none else (idx n len).map fun j => ⟨.ep (cs.drop (j * P.cellsOf e)), .no, st⟩
  | _, _, _ => none
def vFieldAddr (t : TypeId) (x : Operand) (i : Nat) (st : St) : Option Out :=
  match fieldOf P t i with
  | some (off, u) =>
    if P.cellsOf u = 0 then none else
    match st.eval G x with
    | .ptr k o => some ⟨.ptr k (o + off), .no, st⟩
    | .ep cs => some ⟨.ep (cs.drop off), .no, st⟩
    | _ => none
  | none => none
def vSlice (t : TypeId) (x : Operand) (lo hi mx : Option Operand) (st : St) : Option Out :=
  match P.underlying t, st.eval G x, mx with
  | some .string, .d (.str s), none =>
    (optBound G st hi s.length s.length).bind fun h => (optBound G st lo 0 h).map fun l => ⟨.d (.str ((s.take h).drop l)), .no, st⟩
  | some (.slice e), .d (.sl es), none =>
    if P.cellsOf e ≠ 0 ∧ (es.all fun c => c.length == P.cellsOf e) = true then
      (optBound G st hi es.length es.length).bind fun h => (optBound G st lo 0 h).map fun l => ⟨.d (.sl ((es.take h).drop l)), .no, st⟩
    else none
  | some (.slice e), .d .nils, none =>
    if P.cellsOf e ≠ 0 then (optBound G st hi 0 0).bind fun h => (optBound G st lo 0 h).map fun _ => ⟨.d .nils, .no, st⟩ else none
  | some (.slice e), .d (.sl _), some m =>
    if P.cellsOf e ≠ 0 ∧ lo.isNone = true ∧ optBound G st hi 1 0 = some 0 ∧ optBound G st (some m) 1 0 = some 0 then some ⟨.d .nils, .no, st⟩ else none
  | some (.slice e), .d .nils, some m =>
    if P.cellsOf e ≠ 0 ∧ lo.isNone = true ∧ optBound G st hi 1 0 = some 0 ∧ optBound G st (some m) 1 0 = some 0 then some ⟨.d .nils, .no, st⟩ else none
  | _, _, _ => none
def vRange (dst : Option Tmp) (t : TypeId) (x : Operand) (st : St) : Option Out :=
  match dst, P.underlying t, st.eval G x with
  | some d, some .string, .d (.str s) => if d < 100000 then some ⟨.it d, .no, newObjAt st d (.iter s 0)⟩ else none
  | _, _, _ => none
def vNext (it : Operand) (isString : Bool) (st : St) : Option Out :=
  match st.eval G it, isString with
  | .it k, true =>
    match getKey k st.H with
    | some (.iter s pos) =>
      if pos < s.length then
        some ⟨.tup [.bool true, .int .i64 pos, .int .i32 (Utf8.decode ⟨s.toArray⟩ pos).1], .no, { st with H := setKey k (.iter s (pos + (Utf8.decode ⟨s.toArray⟩ pos).2)) st.H }⟩
      else some ⟨.tup [.bool false], .no, st⟩
    | _ => none
  | _, _ => none

def vLen (t : TypeId) (x : Operand) (st : St) : Option Out :=
  match P.underlying t, st.eval G x with
  | some .string, .d (.str s) => some ⟨.d (.int .i64 s.length), .no, st⟩
  | some (.slice _), .d (.sl es) => some ⟨.d (.int .i64 es.length), .no, st⟩
  | some (.slice _), .d .nils => some ⟨.d (.int .i64 0), .no, st⟩
  | some (.map _ _), .mp k =>
    match getKey k st.H with
    | some (.map es) => some ⟨.d (.int .i64 es.length), .no, st⟩
    | _ => none
  | _, _ => none
/-- The class that holds 'l', taken out. -/
def takeOwn (l : Loc) : List (TypeId × List Loc) → Option (TypeId × List (TypeId × List Loc))
  | [] => none
  | c :: r => if c.2.contains l then some (c.1, r) else (takeOwn l r).map fun (e, r') => (e, c :: r')
def asSl : DV → Option (List (List D))
  | .d (.sl es) => some es
  | .d .nils => some []
  | _ => none
/-- What is appended: a slice's elements, a text's bytes. -/
def appSrc (t t' : TypeId) (v : DV) : Option (List (List D)) :=
  if t = t' then asSl v else
  match P.underlying t', elemOfD P t, v with
  | some .string, some e, .d (.str s) => if isU8 P e ∧ P.cellsOf e = 1 then some (s.map fun b => [D.int .u8 b.toNat]) else none
  | _, _, _ => none
def vAppend (t t' : TypeId) (s x : Operand) (st : St) : Option Out :=
  match elemOfD P t, appSrc P t t' (st.eval G x) with
  | some e, some ys =>
    if elemOk P e = true ∧ (ys.all fun c => c.length == P.cellsOf e) = true then
      match st.eval G s, s with
      | .d .nils, _ => if ys.length * (P.bytesOf e + 1) ≤ 140737488355328 then some ⟨.d (.sl ys), .fresh e, st⟩ else none
      | .d (.sl xs), .tmp i =>
        match takeOwn (.t i) st.own with
        | some (e', own') =>
          if e' = e ∧ (xs.all fun c => c.length == P.cellsOf e) = true ∧ (xs.length + ys.length) * (P.bytesOf e + 1) ≤ 140737488355328 then
            some ⟨.d (.sl (xs ++ ys)), .fresh e, { st with own := own' }⟩
          else none
        | none => none
      | _, _ => none
    else none
  | _, _ => none
def vDelete (t : TypeId) (m k : Operand) (st : St) : Option Out :=
  match mapOf P t, st.eval G m, st.eval G k with
  | some (kt, _), .mp key, .d kk =>
    match getKey key st.H, keyFits P kt kk with
    | some (.map es), true => (delKeyD kk es).map fun es' => ⟨.tup [], .no, { st with H := setKey key (.map es') st.H }⟩
    | _, _ => none
  | _, _, _ => none
def vMax (x y : Operand) (st : St) : Option Out :=
  match st.eval G x, st.eval G y with
  | .d (.int k a), .d (.int _ b) => some ⟨.d (.int k (if b > a then b else a)), .no, st⟩
  | _, _ => none
def vMin (x y : Operand) (st : St) : Option Out :=
  match st.eval G x, st.eval G y with
  | .d (.int k a), .d (.int _ b) => some ⟨.d (.int k (if b < a then b else a)), .no, st⟩
  | _, _ => none
def vBuiltin (b : Builtin) (args : List Operand) (ts : List TypeId) (st : St) : Option Out :=
  match b, args, ts with
  | .len, [x], [t] => vLen P G t x st
  | .append, [s, x], [t, t'] => vAppend P G t t' s x st
  | .delete, [m, k], t :: _ => vDelete P G t m k st
  | .max, [x, y], _ => vMax G x y st
  | .min, [x, y], _ => vMin G x y st
  | _, _, _ => none

/-- WHAT AN OPERATION THAT CALLS NO FUNCTION DOES. -/
def vop (o : Oper) (st : St) : Option Out :=
  match o.op with
  | .move x => vMove G x st
  | .assign x => vMove G x st
  | .pick c a b => vPick G c a b st
  | .alloc e => vAlloc P o.dst e st
  | .box _ x => vBox G o.dst x st
  | .build t parts => vBuild P G t parts st
  | .buildSlice t len parts => vBuildSlice P G t len parts st
  | .load t x => vLoad P G t x st
  | .store t a x => vStore P G t a x st
  | .nilCheck x => vNilCheck G x st
  | .binOp op t x y _ => vBinN P G op t x y st
  | .unOp op _ x => vUn G op x st
  | .convert src dst x => vConv P G src dst x st
  | .makeMap _ r => vMakeMap o.dst r st
  | .makeFunc fn first captured => vMakeFunc G fn first captured st
  | .lookup t m k ok => vLookup P G t m k ok st
  | .mapUpdate t m k v => vMapUpdate P G t m k v st
  | .extract x i => vExtract G x i st
  | .field t x i => vField P G t x i st
  | .index t x i => vIndex P G t x i st
  | .indexAddr t x i => vIndexAddr P G t x i st
  | .fieldAddr t x i => vFieldAddr P G t x i st
  | .slice t x lo hi mx => vSlice P G t x lo hi mx st
  | .range t x => vRange P G o.dst t x st
  | .next it b => vNext G it b st
  | .call { callee := .builtin b, args, argTypes } => vBuiltin P G b args.toList argTypes.toList st
  | _ => none

/-- The call of a function that the operation makes, with data. -/
def callOf (o : Oper) (st : St) : Option (FuncId × List D) :=
  match o.op with
  | .call { callee := .value x, args, .. } =>
    match st.eval G x, allD (args.toList.map (st.eval G)) with
    | .fn f, some ds => some (f, ds)
    | _, _ => none
  | _ => none
/-- The call of a function that the operation makes, with whatever it hands on. -/
def callOfH (o : Oper) (st : St) : Option (FuncId × List DV) :=
  match o.op with
  | .call { callee := .value x, args, .. } =>
    match st.eval G x with
    | .fn f => some (f, args.toList.map (st.eval G))
    | .clo f cs => some (f, args.toList.map (st.eval G) ++ cs)
    | _ => none
  | _ => none

/-- Where the arguments of a call lie. -/
def argLoc : Operand → Option Loc
  | .tmp t => some (.t t)
  | _ => none
def locsOf (o : Oper) : List (Option Loc) :=
  match o.op with
  | .call { args, .. } => args.toList.map argLoc
  | _ => []

def yieldedD (ops : Array Oper) (tmps : List DV) (j : Nat) : DV := (((ops[j]?).bind (·.dst)).bind (tmps[·]?)).getD (.tup [])
/-- Is the operation carried out? (none: not known) -/
def wantedD (o : Oper) (ops : Array Oper) (tmps : List DV) : Option Bool :=
  match o.guard with
  | none => some true
  | some (j, want) =>
    match yieldedD ops tmps j with
    | .undef => none
    | .anyb => none
    | .d (.bool b) => some (b == want)
    | _ => some false
end
end Go.VM

set_option linter.unusedVariables false
set_option linter.unusedSimpArgs false
set_option linter.unusedSectionVars false
namespace Go.VM
open Go Go.RowKit

/-- The blocks that are ours, and where the objects lie that were handed to us. -/
structure Base where
  mine : Nat → Prop
  home : Nat → Nat
instance : CoeFun Base fun _ => Nat → Prop := ⟨Base.mine⟩
/-- VALUE v READS, IN WORLD w, THROUGH SETTLED CELLS R ALONE, AS d. -/
inductive V (R : Nat → Nat → Prop) (w : World) : Value → D → Prop
  | int (k : IntKind) (n : Int) : V R w (.int k n) (.int k n)
  | bool (b : Bool) : V R w (.bool b) (.bool b)
  | str (s : List UInt8) : V R w (.string ⟨s.toArray⟩) (.str s)
  | nils (ao : Option Addr) : V R w (.slice ao 0 0) .nils
  | emp (ao : Option Addr) (cap : Nat) : V R w (.slice ao 0 cap) (.sl [])
  | sl (b o n cap size : Nat) (es : List (List D)) (f : Nat → Nat → Value) : n = es.length → n ≤ cap → 0 < size → (∀ e ∈ es, e.length = size) →
      (∀ (i j : Nat), i < n → j < size → R b (o + i * size + j) ∧ w.cell? ⟨b, o + i * size + j, none⟩ = some (f i j)) →
      (∀ (i j : Nat) (e : List D) (d : D), es[i]? = some e → e[j]? = some d → d.one = true) →
      (∀ (i j : Nat) (e : List D) (d : D), es[i]? = some e → e[j]? = some d → V R w (f i j) d) → V R w (.slice (some ⟨b, o, none⟩) n cap) (.sl es)
  | agg (cs : Array Value) (ds : List D) : cs.size = ds.length → (∀ (i : Nat) (d : D), ds[i]? = some d → d.one = true) → (∀ (i : Nat) (d : D), ds[i]? = some d → V R w (cs.getD i undef) d) → V R w (.agg cs) (.agg ds)

/-- A run of cells that reads as cs. -/
def Run (R : Nat → Nat → Prop) (w : World) (b o : Nat) (cs : List D) : Prop :=
  ∀ (j : Nat) (d : D), cs[j]? = some d → d.one = true ∧ R b (o + j) ∧ ∃ v, w.cell? ⟨b, o + j, none⟩ = some v ∧ V R w v d

theorem isNilP_eq {v : Value} (h : isNilP v = true) : v = .pointer none := by
  unfold isNilP at h
  split at h
  · rfl
  · cases h
inductive TV (R : Nat → Nat → Prop) (μ : Nat → Nat) (w : World) : Value → DV → Prop
  | d (v : Value) (x : D) : V R w v x → TV R μ w v (.d x)
  | undef (v : Value) : TV R μ w v .undef
  | ptr (k off : Nat) : TV R μ w (.pointer (some ⟨μ k, off, none⟩)) (.ptr k off)
  | ep (b o : Nat) (cs : List D) : Run R w b o cs → TV R μ w (.pointer (some ⟨b, o, none⟩)) (.ep cs)
  | mp (k : Nat) : TV R μ w (.map (some (μ k))) (.mp k)
  | it (k : Nat) : TV R μ w (.pointer (some ⟨μ k, 0, none⟩)) (.it k)
  | tup (vs : Array Value) (ds : List D) : vs.size = ds.length → (∀ (i : Nat) (d : D), ds[i]? = some d → V R w (vs.getD i Go.undef) d) → TV R μ w (.tuple vs) (.tup ds)
  | fn (f : FuncId) : TV R μ w (.func (.func f) #[] #[]) (.fn f)
  | anyb (b : Bool) : TV R μ w (.bool b) .anyb
  | nilp (T : TypeId) : TV R μ w (.pointer none) (.nilp T)
  | clo (f : FuncId) (vs : Array Value) (cs : List DV) : vs.size = cs.length → (∀ (i : Nat) (c : DV), cs[i]? = some c → TV R μ w (vs.getD i Go.undef) c) → TV R μ w (.func (.func f) #[] vs) (.clo f cs)
  | ag (vs : Array Value) (cs : List DV) : vs.size = cs.length → (∀ i, i < cs.length → (vs.getD i Go.undef).oneCell' = true) → (∀ (i : Nat) (c : DV), cs[i]? = some c → c.cell = true) → (∀ (i : Nat) (c : DV), cs[i]? = some c → TV R μ w (vs.getD i Go.undef) c) → TV R μ w (.agg vs) (.ag cs)

/-- A slice that is nil, or has places. -/
def SureSl (v : Value) : Prop := v = .slice none 0 0 ∨ ∃ ao n cap, v = .slice ao n cap ∧ cap ≠ 0
/-- A cell that is known to be a nil pointer says the block's type. -/
def NilsOk (T : TypeId) (cs : List DV) : Prop := ∀ T', DV.nilp T' ∈ cs → T = T'
theorem NilsOk.of_noNil {T : TypeId} {cs : List DV} (h : cs.all noNil = true) : NilsOk T cs := fun T' hm => by
  have := List.all_eq_true.1 h _ hm
  cases this

def ObjRel (R : Nat → Nat → Prop) (μ : Nat → Nat) (w : World) (b : Nat) : AObj → Prop
  | .cells cs => ∃ vs T, w.heap[b]? = some (.cells vs T (0, 0)) ∧ vs.size = cs.length ∧ (∀ (i : Nat) (d : DV), cs[i]? = some d → d.cell = true ∧ TV R μ w (vs.getD i undef) d) ∧ NilsOk T cs
  | .map es => ∃ ents clock, w.heap[b]? = some (.map ents clock) ∧ ents.size = es.length ∧ ∀ (i : Nat) (k v : D), es[i]? = some (k, v) → V R w ((ents.getD i default).key) k ∧ V R w ((ents.getD i default).val) v
  | .iter s pos => w.heap[b]? = some (.stringIter ⟨s.toArray⟩ pos)
  | .bld T u es => ∃ v0 v1 T', w.heap[b]? = some (.cells #[v0, v1] T' (0, 0)) ∧ (u = false → T' = T ∧ v1 = .slice none 0 0) ∧ v0 = (if u then .pointer (some ⟨b, 0, none⟩) else .pointer none) ∧ V R w v1 (.sl es) ∧ SureSl v1

def spareBlk : Value → Option Nat
  | .slice (some a) _ cap => if cap = 0 then none else some a.block
  | _ => none

/-- The slice v has spare places that nobody reads. -/
def OwnSl (P : Program) (base : Base) (R : Nat → Nat → Prop) (w : World) (e : TypeId) (v : Value) : Prop :=
  (∃ ao, v = .slice ao 0 0) ∨
  ∃ g n cap cur, v = .slice (some ⟨g, 0, none⟩) n cap ∧ base g ∧ w.heap[g]? = some (.cells cur e (0, 0)) ∧ n ≤ cap ∧ cap ≤ maxLen ∧ cur.size = cap * P.cellsOf e ∧ ∀ off, n * P.cellsOf e ≤ off → ¬ R g off

def locVal (a : Act) (w : World) (μ : Nat → Nat) : Loc → Option Value
  | .t i => a.tmps[i]?
  | .c k off => w.cell? ⟨μ k, off, none⟩

structure OwnOne (P : Program) (base : Base) (R : Nat → Nat → Prop) (μ : Nat → Nat) (st : St) (a : Act) (w : World) (c : TypeId × List Loc) (v : Value) : Prop where
  locs : ∀ l ∈ c.2, ∀ u, locVal a w μ l = some u → u = v
  own : OwnSl P base R w c.1 v
  keys : ∀ k o, getKey k st.H = some o → spareBlk v ≠ some (μ k)

def Apart (v v' : Value) : Prop := ∀ g, spareBlk v = some g → spareBlk v' ≠ some g

structure Owns (P : Program) (base : Base) (R : Nat → Nat → Prop) (μ : Nat → Nat) (st : St) (a : Act) (w : World) (vs : List Value) : Prop where
  len : vs.length = st.own.length
  one : ∀ (i : Nat) (c : TypeId × List Loc) (v : Value), st.own[i]? = some c → vs[i]? = some v → OwnOne P base R μ st a w c v
  apart : vs.Pairwise Apart

/-- The package-level variables lie in blocks below base, and hold just what G says. -/
def Glob (G : GT) (base : Base) (R : Nat → Nat → Prop) (w : World) : Prop := ∀ g cs, G g = some cs → Run R w g 0 cs ∧ ¬ base g ∧ ∃ arr T fr, w.heap[g]? = some (.cells arr T fr) ∧ arr.size = cs.length

structure Rel (P : Program) (G : GT) (bs : Base) (R : Nat → Nat → Prop) (μ : Nat → Nat) (st : St) (a : Act) (w : World) : Prop where
  defers : a.defers = []
  size : a.tmps.size = st.tmps.length
  tmps : ∀ (i : Nat) (v : Value) (d : DV), a.tmps[i]? = some v → st.tmps[i]? = some d → TV R μ w v d
  objs : ∀ k o, getKey k st.H = some o → bs (μ k) ∧ (∀ off, ¬ R (μ k) off) ∧ ObjRel R μ w (μ k) o
  inj : ∀ k k' o o', getKey k st.H = some o → getKey k' st.H = some o' → μ k = μ k' → k = k'
  locs : ∀ c ∈ st.own, ∀ k off, Loc.c k off ∈ c.2 → ∃ o, getKey k st.H = some o
  own : ∃ vs, Owns P bs R μ st a w vs
  glob : Glob G bs R w
  rset : ∀ b o, R b o → b < w.heap.size
  base : ∀ b, w.heap.size ≤ b → bs b
  pass : ∀ k, 100000 ≤ k → μ k = bs.home k

/-- The blocks that are not ours are as they were. -/
structure Keep (base : Base) (w w' : World) : Prop where
  os : w'.os = w.os
  tape : w'.tape = w.tape
  output : w'.output = w.output
  size : w.heap.size ≤ w'.heap.size
  block : ∀ k, ¬ base k → w'.heap[k]? = w.heap[k]?
theorem Keep.refl (base : Base) (w : World) : Keep base w w := ⟨rfl, rfl, rfl, Nat.le_refl _, fun _ _ => rfl⟩
theorem Keep.trans {base : Base} {a b c : World} (h : Keep base a b) (k : Keep base b c) : Keep base a c :=
  ⟨k.os.trans h.os, k.tape.trans h.tape, k.output.trans h.output, Nat.le_trans h.size k.size, fun i hi => (k.block i hi).trans (h.block i hi)⟩
theorem Keep.mono {base base' : Base} {w w' : World} (h : Keep base w w') (hb : ∀ k, base k → base' k) : Keep base' w w' := ⟨h.os, h.tape, h.output, h.size, fun k hk => h.block k fun hx => hk (hb k hx)⟩
theorem Keep.drew {base : Base} {a w : World} (h : Keep base a w) : Keep base a w.drew := ⟨h.os, h.tape, h.output, h.size, h.block⟩
theorem Keep.alloc {base : Base} {a w : World} (h : Keep base a w) (hB : ∀ b, w.heap.size ≤ b → base b) (o : Obj) : Keep base a (w.alloc o) :=
  h.trans ⟨rfl, rfl, rfl, by simp, fun k hk => by
    show (w.heap.push o)[k]? = _
    rw [Array.getElem?_push, if_neg fun e => hk (hB k (by omega))]⟩
/-- The blocks from a number on. -/
abbrev From (n : Nat) : Base := ⟨fun k => n ≤ k, fun _ => 0⟩
theorem Keep.below {n : Nat} {w w' : World} (h : Keep (From n) w w') : Below n w w' := ⟨h.os, h.tape, h.output, h.size, fun k hk => h.block k (by simpa [From] using hk)⟩
theorem Keep.of_below {n : Nat} {w w' : World} (h : Below n w w') : Keep (From n) w w' := ⟨h.os, h.tape, h.output, h.size, fun k hk => h.block k (by simpa [From] using hk)⟩
/-- What a step does to the world: old blocks stay, settled cells stay. -/
structure Step (base : Base) (R : Nat → Nat → Prop) (w : World) (R' : Nat → Nat → Prop) (w' : World) : Prop where
  below : Keep base w w'
  mono : ∀ b o, R b o → R' b o
  new : ∀ b o, R' b o → ¬ R b o → base b
  cells : ∀ b o, R b o → w'.cell? ⟨b, o, none⟩ = w.cell? ⟨b, o, none⟩

theorem Step.refl (base : Base) (R : Nat → Nat → Prop) (w : World) : Step base R w R w := ⟨Keep.refl _ _, fun _ _ h => h, fun _ _ h h' => absurd h h', fun _ _ _ => rfl⟩
theorem Step.trans {base : Base} {R R' R'' : Nat → Nat → Prop} {w w' w'' : World} (h : Step base R w R' w') (h' : Step base R' w' R'' w'') : Step base R w R'' w'' :=
  ⟨h.below.trans h'.below, fun b o hr => h'.mono b o (h.mono b o hr), fun b o hr hn => by
    by_cases hm : R' b o
    · exact h.new b o hm hn
    · exact h'.new b o hr hm, fun b o hr => (h'.cells b o (h.mono b o hr)).trans (h.cells b o hr)⟩

/-- THE CONTRACT OF A FUNCTION: called with values that read as ds it returns, old blocks stay, the result reads as r; 'own': its spare places are nobody's. -/
def CS (P : Program) (G : GT) (f : FuncId) (ds : List D) (r : DV) (own : Option TypeId) : Prop :=
  ∀ (w : World) (R : Nat → Nat → Prop) (args : Array Value), Glob G (From w.heap.size) R w → (∀ b o, R b o → b < w.heap.size) → args.size = ds.length →
    (∀ (i : Nat) (d : D), ds[i]? = some d → V R w (args.getD i undef) d) →
    Calls P f args w fun e w' => ∃ v R', e = .returned v ∧ (∀ μ, TV R' μ w' v r) ∧ Step (From w.heap.size) R w R' w' ∧ (∀ b o, R' b o → b < w'.heap.size) ∧
      (∀ e, own = some e → OwnSl P (From w.heap.size) R' w' e v)

/-- From a state on, the code c comes to Q. -/
def SW (P : Program) (G : GT) (c : Code) (st : St) (Q : Exit → St → Prop) : Prop :=
  ∀ base R μ a w, Rel P G base R μ st a w → c.wp P (fun e a' w' => ∃ st' R' μ', Q e st' ∧ Rel P G base R' μ' st' a' w' ∧ Step base R w R' w') a w

/-! ### What is settled stays -/

theorem V.step {R R' : Nat → Nat → Prop} {w w' : World} (hm : ∀ b o, R b o → R' b o) (hc : ∀ b o, R b o → w'.cell? ⟨b, o, none⟩ = w.cell? ⟨b, o, none⟩) {v : Value} {d : D} (h : V R w v d) : V R' w' v d := by
  induction h with
  | int k n => exact .int k n
  | bool b => exact .bool b
  | str s => exact .str s
  | nils ao => exact .nils ao
  | emp ao cap => exact .emp ao cap
  | sl b o n cap size es f h1 h2 h3 h4 h5 h6 _ ih =>
    exact .sl b o n cap size es f h1 h2 h3 h4 (fun i j hi hj => ⟨hm _ _ (h5 i j hi hj).1, (hc _ _ (h5 i j hi hj).1).trans (h5 i j hi hj).2⟩) h6 ih
  | agg cs ds h1 h2 _ ih => exact .agg cs ds h1 h2 ih

theorem V.of_step {base : Base} {R R' : Nat → Nat → Prop} {w w' : World} (hs : Step base R w R' w') {v : Value} {d : D} (h : V R w v d) : V R' w' v d := h.step hs.mono hs.cells

theorem Run.of_step {base : Base} {R R' : Nat → Nat → Prop} {w w' : World} (hs : Step base R w R' w') {b o : Nat} {cs : List D} (h : Run R w b o cs) : Run R' w' b o cs := by
  intro j d hj
  obtain ⟨h1, h2, v, h3, h4⟩ := h j d hj
  exact ⟨h1, hs.mono _ _ h2, v, (hs.cells _ _ h2).trans h3, h4.of_step hs⟩

theorem TV.of_step {base : Base} {R R' : Nat → Nat → Prop} {μ : Nat → Nat} {w w' : World} (hs : Step base R w R' w') {v : Value} {d : DV} (h : TV R μ w v d) : TV R' μ w' v d := by
  induction h with
  | d v x h => exact .d v x (h.of_step hs)
  | undef v => exact .undef v
  | ptr k off => exact .ptr k off
  | ep b o cs h => exact .ep b o cs (h.of_step hs)
  | mp k => exact .mp k
  | it k => exact .it k
  | tup vs ds h1 h2 => exact .tup vs ds h1 fun i d hi => (h2 i d hi).of_step hs
  | fn f => exact .fn f
  | anyb b => exact .anyb b
  | nilp T => exact .nilp T
  | clo f vs cs h1 _ ih => exact .clo f vs cs h1 ih
  | ag vs cs h1 h2 h3 _ ih => exact .ag vs cs h1 h2 h3 ih
theorem mentionsAny_false {key : Nat} : ∀ {cs : List DV}, mentionsAny key cs = false → ∀ (i : Nat) (c : DV), cs[i]? = some c → mentions key c = false
  | [], _, i, c, h => by simp at h
  | d :: r, hm, i, c, h => by
    simp only [mentionsAny, Bool.or_eq_false_iff] at hm
    cases i with
    | zero => simp at h; subst h; exact hm.1
    | succ i => exact mentionsAny_false hm.2 i c (by simpa using h)
/-- A value that does not name an object reads so wherever that object lies. -/
theorem TV.rekey {R : Nat → Nat → Prop} {μ μ' : Nat → Nat} {w : World} {key : Nat} (hμ : ∀ k, k ≠ key → μ' k = μ k) {v : Value} {d : DV} (h : TV R μ w v d) (hm : mentions key d = false) : TV R μ' w v d := by
  induction h with
  | d v x h => exact .d v x h
  | undef v => exact .undef v
  | ptr k off =>
    have : k ≠ key := by simpa [mentions] using hm
    rw [← hμ k this]; exact .ptr k off
  | ep b o cs h => exact .ep b o cs h
  | mp k =>
    have : k ≠ key := by simpa [mentions] using hm
    rw [← hμ k this]; exact .mp k
  | it k =>
    have : k ≠ key := by simpa [mentions] using hm
    rw [← hμ k this]; exact .it k
  | tup vs ds h1 h2 => exact .tup vs ds h1 h2
  | fn f => exact .fn f
  | anyb b => exact .anyb b
  | nilp T => exact .nilp T
  | clo f vs cs h1 h2 ih =>
    simp only [mentions] at hm
    exact .clo f vs cs h1 fun i c hi => ih i c hi (mentionsAny_false hm i c hi)
  | ag vs cs h1 h2 h3 h4 ih =>
    simp only [mentions] at hm
    exact .ag vs cs h1 h2 h3 fun i c hi => ih i c hi (mentionsAny_false hm i c hi)

theorem Glob.of_step {G : GT} {base : Base} {R R' : Nat → Nat → Prop} {w w' : World} (hs : Step base R w R' w') (h : Glob G base R w) : Glob G base R' w' := fun g cs hg => by
  obtain ⟨h1, h2, arr, T, fr, h3, h4⟩ := h g cs hg
  exact ⟨h1.of_step hs, h2, arr, T, fr, by rw [hs.below.block g h2]; exact h3, h4⟩
theorem Glob.up {G : GT} {base base' : Base} {R : Nat → Nat → Prop} {w : World} (h : Glob G base R w) (hb : ∀ k, base' k → base k) : Glob G base' R w := fun g cs hg => by
  obtain ⟨h1, h2, h3⟩ := h g cs hg
  exact ⟨h1, fun hx => h2 (hb g hx), h3⟩

theorem V.oneCell {R : Nat → Nat → Prop} {w : World} {v : Value} {d : D} (h : V R w v d) (h1 : d.one = true) : v.oneCell' = true := by
  cases h <;> first | rfl | (simp [D.one] at h1)

theorem V.cells_one {R : Nat → Nat → Prop} {w : World} {v : Value} {d : D} (h : V R w v d) (h1 : d.one = true) : v.cells = #[v] ∧ d.cells = [d] := by
  cases h <;> first | exact ⟨rfl, rfl⟩ | (simp [D.one] at h1)

/-- A value's cells, one by one. -/
theorem V.cells {R : Nat → Nat → Prop} {w : World} {v : Value} {d : D} (h : V R w v d) : v.cells.size = d.cells.length ∧ ∀ (i : Nat) (c : D), d.cells[i]? = some c → c.one = true ∧ V R w (v.cells.getD i undef) c := by
  cases h with
  | agg cs ds h1 h2 h3 => exact ⟨h1, fun i c hi => ⟨h2 i c hi, h3 i c hi⟩⟩
  | int k n => exact ⟨rfl, fun i c hi => by cases i <;> simp [D.cells] at hi; subst hi; exact ⟨rfl, .int k n⟩⟩
  | bool b => exact ⟨rfl, fun i c hi => by cases i <;> simp [D.cells] at hi; subst hi; exact ⟨rfl, .bool b⟩⟩
  | str s => exact ⟨rfl, fun i c hi => by cases i <;> simp [D.cells] at hi; subst hi; exact ⟨rfl, .str s⟩⟩
  | nils ao => exact ⟨rfl, fun i c hi => by cases i <;> simp [D.cells] at hi; subst hi; exact ⟨rfl, .nils ao⟩⟩
  | emp ao cap => exact ⟨rfl, fun i c hi => by cases i <;> simp [D.cells] at hi; subst hi; exact ⟨rfl, .emp ao cap⟩⟩
  | sl b o n cap size es f h1 h2 h3 h4 h5 h6 h7 =>
    exact ⟨rfl, fun i c hi => by cases i <;> simp [D.cells] at hi; subst hi; exact ⟨rfl, .sl b o n cap size es f h1 h2 h3 h4 h5 h6 h7⟩⟩
end Go.VM

set_option linter.unusedVariables false
set_option linter.unusedSimpArgs false
set_option linter.unusedSectionVars false
namespace Go.VM
open Go Go.RowKit

theorem getKey_rep_same (k : Nat) (o : AObj) : ∀ H : List (Nat × AObj), (getKey k H).isSome = true → getKey k (repKey k o H) = some o
  | [], h => by simp [getKey] at h
  | (k', o') :: r, h => by
    unfold repKey
    split
    · simp [getKey]
    · rename_i hk
      simp only [getKey, hk, if_false] at h ⊢
      exact getKey_rep_same k o r h
theorem getKey_rep_ne {k k' : Nat} (o : AObj) (h : k ≠ k') : ∀ H : List (Nat × AObj), getKey k' (repKey k o H) = getKey k' H
  | [] => rfl
  | (k1, o1) :: r => by
    unfold repKey
    split
    · rename_i h1; subst h1; simp [getKey, h]
    · simp [getKey, getKey_rep_ne o h r]
theorem getKey_ins_same (k : Nat) (o : AObj) : ∀ H : List (Nat × AObj), getKey k H = none → getKey k (insKey k o H) = some o
  | [], _ => by simp [insKey, getKey]
  | (k', o') :: r, h => by
    unfold insKey
    split
    · simp [getKey]
    · simp only [getKey] at h ⊢
      split at h
      · cases h
      · rename_i hk; rw [if_neg hk]; exact getKey_ins_same k o r h
theorem getKey_ins_ne {k k' : Nat} (o : AObj) (h : k ≠ k') : ∀ H : List (Nat × AObj), getKey k' (insKey k o H) = getKey k' H
  | [] => by simp [insKey, getKey, h]
  | (k1, o1) :: r => by
    unfold insKey
    split
    · simp [getKey, h]
    · simp [getKey, getKey_ins_ne o h r]
theorem getKey_setKey_same (k : Nat) (o : AObj) (H : List (Nat × AObj)) : getKey k (setKey k o H) = some o := by
  unfold setKey
  split
  · rename_i h; exact getKey_rep_same k o H h
  · rename_i h; exact getKey_ins_same k o H (by simpa using h)
theorem getKey_setKey_ne {k k' : Nat} (o : AObj) (h : k ≠ k') (H : List (Nat × AObj)) : getKey k' (setKey k o H) = getKey k' H := by
  unfold setKey
  split
  · exact getKey_rep_ne o h H
  · exact getKey_ins_ne o h H
theorem insKey_comm {a b : Nat} (h : a ≠ b) (o o' : AObj) : ∀ H : List (Nat × AObj), insKey a o (insKey b o' H) = insKey b o' (insKey a o H)
  | [] => by
    rcases Nat.lt_or_gt_of_ne h with h' | h'
    · simp [insKey, h', Nat.not_lt.2 (Nat.le_of_lt h')]
    · simp [insKey, h', Nat.not_lt.2 (Nat.le_of_lt h')]
  | (k, x) :: r => by
    by_cases h1 : a < k <;> by_cases h2 : b < k
    · rcases Nat.lt_or_gt_of_ne h with h' | h'
      · simp [insKey, h1, h2, h', Nat.not_lt.2 (Nat.le_of_lt h')]
      · simp [insKey, h1, h2, h', Nat.not_lt.2 (Nat.le_of_lt h')]
    · have : ¬ b < a := by omega
      simp [insKey, h1, h2, this]
    · have : ¬ a < b := by omega
      simp [insKey, h1, h2, this]
    · simp [insKey, h1, h2, insKey_comm h o o' r]
theorem setKey_comm {a b : Nat} (h : a ≠ b) (o o' : AObj) {H : List (Nat × AObj)} (ha : getKey a H = none) (hb : getKey b H = none) : setKey a o (setKey b o' H) = setKey b o' (setKey a o H) := by
  have e1 : setKey b o' H = insKey b o' H := by unfold setKey; rw [hb]; rfl
  have e2 : setKey a o H = insKey a o H := by unfold setKey; rw [ha]; rfl
  rw [e1, e2]
  unfold setKey
  rw [getKey_ins_ne o' (Ne.symm h), getKey_ins_ne o h, ha, hb]
  exact insKey_comm h o o' H
theorem getKey_setKey {k k' : Nat} (o : AObj) (H : List (Nat × AObj)) : getKey k' (setKey k o H) = if k = k' then some o else getKey k' H := by
  split
  · rename_i h; subst h; exact getKey_setKey_same _ _ _
  · rename_i h; exact getKey_setKey_ne o h H

section
variable {P : Program} {G : GT} {base : Base} {R R' : Nat → Nat → Prop} {μ : Nat → Nat} {st : St} {a : Act} {w w' : World}

theorem ObjRel.lt {b : Nat} {o : AObj} (h : ObjRel R μ w b o) : b < w.heap.size := by
  cases o with
  | cells cs => obtain ⟨vs, T, h, _⟩ := h; exact (Array.getElem?_eq_some_iff.1 h).1
  | map es => obtain ⟨vs, T, h, _⟩ := h; exact (Array.getElem?_eq_some_iff.1 h).1
  | iter s pos => exact (Array.getElem?_eq_some_iff.1 (show w.heap[b]? = _ from h)).1
  | bld T u es => obtain ⟨v0, v1, T', h, _⟩ := h; exact (Array.getElem?_eq_some_iff.1 h).1

/-- An object whose block is as it was. -/
theorem ObjRel.of_step (hs : Step base R w R' w') {b : Nat} (hb : w'.heap[b]? = w.heap[b]?) {o : AObj} (h : ObjRel R μ w b o) : ObjRel R' μ w' b o := by
  cases o with
  | cells cs => obtain ⟨vs, T, h1, h2, h3, h4⟩ := h; exact ⟨vs, T, hb.trans h1, h2, fun i d hi => ⟨(h3 i d hi).1, (h3 i d hi).2.of_step hs⟩, h4⟩
  | map es => obtain ⟨vs, T, h1, h2, h3⟩ := h; exact ⟨vs, T, hb.trans h1, h2, fun i k v hi => ⟨(h3 i k v hi).1.of_step hs, (h3 i k v hi).2.of_step hs⟩⟩
  | iter s pos => exact hb.trans h
  | bld T u es => obtain ⟨v0, v1, T', h1, h2, h3, h4, h5⟩ := h; exact ⟨v0, v1, T', hb.trans h1, h2, h3, h4.of_step hs, h5⟩

theorem spareBlk_of_own {e : TypeId} {v : Value} (h : OwnSl P base R w e v) {g : Nat} (hg : spareBlk v = some g) :
    ∃ n cap cur, v = .slice (some ⟨g, 0, none⟩) n cap ∧ base g ∧ w.heap[g]? = some (.cells cur e (0, 0)) ∧ n ≤ cap ∧ cap ≤ maxLen ∧ cur.size = cap * P.cellsOf e ∧ ∀ off, n * P.cellsOf e ≤ off → ¬ R g off := by
  rcases h with ⟨ao, rfl⟩ | ⟨g', n, cap, cur, rfl, h⟩
  · cases ao <;> simp [spareBlk] at hg
  · by_cases hc : cap = 0
    · simp [spareBlk, hc] at hg
    · simp [spareBlk, hc] at hg
      subst hg
      exact ⟨n, cap, cur, rfl, h⟩

theorem OwnSl.base_le {e : TypeId} {v : Value} (h : OwnSl P base R w e v) {g : Nat} (hg : spareBlk v = some g) : base g := by
  obtain ⟨n, cap, cur, _, h, _⟩ := spareBlk_of_own h hg
  exact h
theorem OwnSl.lt {e : TypeId} {v : Value} (h : OwnSl P base R w e v) {g : Nat} (hg : spareBlk v = some g) : g < w.heap.size := by
  obtain ⟨n, cap, cur, _, _, h, _⟩ := spareBlk_of_own h hg
  exact (Array.getElem?_eq_some_iff.1 h).1

/-- An owned slice whose block is as it was, nothing of which has been settled. -/
theorem OwnSl.keep {e : TypeId} {v : Value} (h : OwnSl P base R w e v) (hb : ∀ g, base g → g < w.heap.size → w'.heap[g]? = w.heap[g]?) (hr : ∀ g off, g < w.heap.size → R' g off → R g off) : OwnSl P base R' w' e v := by
  rcases h with h | ⟨g, n, cap, cur, h0, h1, h2, h3, h4, h5, h6⟩
  · exact .inl h
  · have hl := (Array.getElem?_eq_some_iff.1 h2).1
    exact .inr ⟨g, n, cap, cur, h0, h1, (hb g h1 hl).trans h2, h3, h4, h5, fun off ho hr' => h6 off ho (hr g off hl hr')⟩

theorem OwnSl.keep1 {e : TypeId} {v : Value} (h : OwnSl P base R w e v) (hb : ∀ g, spareBlk v = some g → w'.heap[g]? = w.heap[g]?) (hr : ∀ g off, spareBlk v = some g → R' g off → R g off) : OwnSl P base R' w' e v := by
  rcases h with h | ⟨g, n, cap, cur, rfl, h1, h2, h3, h4, h5, h6⟩
  · exact .inl h
  · by_cases hc : cap = 0
    · subst hc
      have : n = 0 := by omega
      subst this
      exact .inl ⟨_, rfl⟩
    · have hs : spareBlk (.slice (some ⟨g, 0, none⟩) n cap) = some g := by simp [spareBlk, hc]
      exact .inr ⟨g, n, cap, cur, rfl, h1, (hb g hs).trans h2, h3, h4, h5, fun off ho hr' => h6 off ho (hr g off hs hr')⟩

theorem locVal_put_ne {l : Loc} {dst : Option Tmp} {v : Value} (h : ∀ d, dst = some d → l ≠ .t d) : locVal (a.put dst v) w μ l = locVal a w μ l := by
  cases dst with
  | none => rfl
  | some d =>
    cases l with
    | t i =>
      have : d ≠ i := fun e => h d rfl (by rw [e])
      simp [locVal, Act.put, Array.getElem?_setIfInBounds_ne this]
    | c k off => rfl

theorem mem_dropLoc {l : Loc} {own : List (TypeId × List Loc)} {i : Nat} {c : TypeId × List Loc} (h : (dropLoc l own)[i]? = some c) : ∃ c', own[i]? = some c' ∧ c.1 = c'.1 ∧ ∀ x, x ∈ c.2 ↔ x ∈ c'.2 ∧ x ≠ l := by
  simp only [dropLoc, List.getElem?_map, Option.map_eq_some_iff] at h
  obtain ⟨c', h1, rfl⟩ := h
  exact ⟨c', h1, rfl, fun x => by simp⟩
theorem mem_dropKey {key : Nat} {own : List (TypeId × List Loc)} {i : Nat} {c : TypeId × List Loc} (h : (dropKey key own)[i]? = some c) : ∃ c', own[i]? = some c' ∧ c.1 = c'.1 ∧ ∀ x, x ∈ c.2 ↔ x ∈ c'.2 ∧ x.ofKey key = false := by
  simp only [dropKey, List.getElem?_map, Option.map_eq_some_iff] at h
  obtain ⟨c', h1, rfl⟩ := h
  exact ⟨c', h1, rfl, fun x => by simp⟩
theorem mem_addAlias {src dst : Loc} {own : List (TypeId × List Loc)} {i : Nat} {c : TypeId × List Loc} (h : (addAlias src dst own)[i]? = some c) : ∃ c', own[i]? = some c' ∧ c.1 = c'.1 ∧ ∀ x, x ∈ c.2 → x ∈ c'.2 ∨ (x = dst ∧ src ∈ c'.2) := by
  simp only [addAlias, List.getElem?_map, Option.map_eq_some_iff] at h
  obtain ⟨c', h1, h2⟩ := h
  refine ⟨c', h1, ?_⟩
  split at h2
  · rename_i hc
    subst h2
    refine ⟨rfl, fun x hx => ?_⟩
    simp at hx
    rcases hx with rfl | hx
    · exact .inr ⟨rfl, by simpa using hc⟩
    · exact .inl hx
  · subst h2; exact ⟨rfl, fun x hx => .inl hx⟩

/-- What 'act' claims of the value that is written to 'dst'. -/
def ActOk (P : Program) (base : Base) (R : Nat → Nat → Prop) (μ : Nat → Nat) (st : St) (a : Act) (w : World) (v : Value) : OA → Prop
  | .no => True
  | .al l => locVal a w μ l = some v
  | .fresh e => OwnSl P base R w e v ∧ (∀ k o, getKey k st.H = some o → spareBlk v ≠ some (μ k)) ∧ ∃ vs, Owns P base R μ st a w vs ∧ ∀ v' ∈ vs, Apart v v' ∧ Apart v' v

/-- The own classes behind a write to 'dst' ('a'', 'w'': the frame and world behind it). -/
theorem Owns.act {a' : Act} {w' : World} {st' : St} {dst : Loc} {v : Value} {act : OA} (hex : ∃ vs, Owns P base R μ st a w vs)
    (hown : st'.own = ownAct dst act st.own) (hkeys : ∀ k o, getKey k st'.H = some o → ∃ o', getKey k st.H = some o')
    (hne : ∀ c ∈ st.own, ∀ l ∈ c.2, l ≠ dst → locVal a' w' μ l = locVal a w μ l) (hd : ∀ u, locVal a' w' μ dst = some u → u = v)
    (hsl : ∀ e u, OwnSl P base R w e u → (∀ k o, getKey k st.H = some o → spareBlk u ≠ some (μ k)) → OwnSl P base R' w' e u)
    (hact : ActOk P base R μ st a w v act) : ∃ vs', Owns P base R' μ st' a' w' vs' := by
  have keep : ∀ (vs : List Value), Owns P base R μ st a w vs → ∀ (i : Nat) (c : TypeId × List Loc) (u : Value), (dropLoc dst st.own)[i]? = some c → vs[i]? = some u → OwnOne P base R' μ st' a' w' c u := fun vs h i c u hc hu => by
    obtain ⟨c', hc', he, hm⟩ := mem_dropLoc hc
    have ho := h.one i c' u hc' hu
    refine ⟨fun l hl u' hu' => ?_, ?_, fun k o hk => ?_⟩
    · have := (hm l).1 hl
      exact ho.locs l this.1 u' ((hne c' (List.mem_of_getElem? hc') l this.1 this.2).symm.trans hu')
    · rw [he]; exact hsl c'.1 u ho.own ho.keys
    · obtain ⟨o', ho'⟩ := hkeys k o hk; exact ho.keys k o' ho'
  cases act with
  | no =>
    obtain ⟨vs, h⟩ := hex
    exact ⟨vs, by rw [hown]; simpa [ownAct, dropLoc] using h.len, fun i c u hc hu => keep vs h i c u (by rw [hown] at hc; exact hc) hu, h.apart⟩
  | al l =>
    obtain ⟨vs, h⟩ := hex
    have h1 := h.one
    by_cases hld : l = dst
    · subst hld
      refine ⟨vs, by rw [hown]; simpa [ownAct] using h.len, fun i c u hc hu => ?_, h.apart⟩
      rw [hown] at hc
      simp only [ownAct, if_true] at hc
      have ho := h1 i c u hc hu
      refine ⟨fun l' hl' u' hu' => ?_, hsl c.1 u ho.own ho.keys, fun k o hk => by obtain ⟨o', ho'⟩ := hkeys k o hk; exact ho.keys k o' ho'⟩
      by_cases hl'' : l' = l
      · subst hl''
        exact (hd u' hu').trans (ho.locs l' hl' v hact)
      · exact ho.locs l' hl' u' ((hne c (List.mem_of_getElem? hc) l' hl' hl'').symm.trans hu')
    · refine ⟨vs, by rw [hown]; simpa [ownAct, hld, addAlias, dropLoc] using h.len, fun i c u hc hu => ?_, h.apart⟩
      rw [hown] at hc
      simp only [ownAct, if_neg hld] at hc
      obtain ⟨c', hc', he, hm⟩ := mem_addAlias hc
      have ho := keep vs h i c' u hc' hu
      refine ⟨fun l' hl' u' hu' => ?_, by rw [he]; exact ho.own, ho.keys⟩
      rcases hm l' hl' with hx | ⟨rfl, hx⟩
      · exact ho.locs l' hx u' hu'
      · obtain ⟨c0, hc0, _, hm0⟩ := mem_dropLoc hc'
        exact (hd u' hu').trans ((h1 i c0 u hc0 hu).locs l ((hm0 l).1 hx).1 v hact)
  | fresh e =>
    obtain ⟨ha1, ha2, vs, h, hap'⟩ := hact
    refine ⟨v :: vs, by rw [hown]; simpa [ownAct, dropLoc] using h.len, fun i c u hc hu => ?_, List.pairwise_cons.2 ⟨fun v' hv' => (hap' v' hv').1, h.apart⟩⟩
    rw [hown] at hc
    cases i with
    | zero =>
      simp [ownAct] at hc hu
      subst hc hu
      exact ⟨fun l hl u hu => by simp at hl; subst hl; exact hd u hu, hsl e v ha1 ha2, fun k o hk => by obtain ⟨o', ho'⟩ := hkeys k o hk; exact ha2 k o' ho'⟩
    | succ i =>
      simp [ownAct] at hc hu
      exact keep vs h i c u hc hu

/-- A TEMPORARY IS WRITTEN. -/
theorem Rel.put {dst : Option Tmp} {v : Value} {dv : DV} {act : OA} (h : Rel P G base R μ st a w) (hv : TV R μ w v dv) (hact : ActOk P base R μ st a w v act) :
    Rel P G base R μ (finish st dst dv act) (a.put dst v) w := by
  cases dst with
  | none => exact h
  | some d =>
    refine ⟨h.defers, by simp [finish, Act.put, h.size], fun i u x hu hx => ?_, h.objs, h.inj, fun c hc k off hl => ?_, ?_, h.glob, h.rset, h.base, h.pass⟩
    · simp only [finish, Act.put] at hu hx
      by_cases hdi : d = i
      · subst hdi
        have h1 : d < st.tmps.length := by
          by_cases hlt : d < st.tmps.length
          · exact hlt
          · have hno : (st.tmps.set d dv)[d]? = none := List.getElem?_eq_none (by rw [List.length_set]; exact Nat.le_of_not_lt hlt)
            rw [hno] at hx; cases hx
        have h2 : d < a.tmps.size := by rw [h.size]; exact h1
        simp [h1] at hx
        simp [h2] at hu
        subst hu hx
        exact hv
      · rw [Array.getElem?_setIfInBounds_ne hdi] at hu
        rw [List.getElem?_set_ne hdi] at hx
        exact h.tmps i u x hu hx
    · simp only [finish] at hc
      obtain ⟨i, hi⟩ := List.getElem?_of_mem hc
      cases act with
      | no =>
        obtain ⟨c', hc', _, hm⟩ := mem_dropLoc hi
        exact h.locs c' (List.mem_of_getElem? hc') k off ((hm _).1 hl).1
      | al l =>
        by_cases hld : l = .t d
        · simp only [ownAct, if_pos hld] at hi
          exact h.locs c (List.mem_of_getElem? hi) k off hl
        · simp only [ownAct, if_neg hld] at hi
          obtain ⟨c', hc', _, hm⟩ := mem_addAlias hi
          rcases hm _ hl with hx | ⟨hx, _⟩
          · obtain ⟨c0, hc0, _, hm0⟩ := mem_dropLoc hc'
            exact h.locs c0 (List.mem_of_getElem? hc0) k off ((hm0 _).1 hx).1
          · cases hx
      | fresh e =>
        cases i with
        | zero => simp [ownAct] at hi; subst hi; simp at hl
        | succ i =>
          simp [ownAct] at hi
          obtain ⟨c', hc', _, hm⟩ := mem_dropLoc hi
          exact h.locs c' (List.mem_of_getElem? hc') k off ((hm _).1 hl).1
    · refine Owns.act (st' := finish st (some d) dv act) h.own rfl (fun k o hk => ⟨o, hk⟩) (fun c _ l _ hl => locVal_put_ne fun d' hd' => by cases hd'; exact hl) (fun u hu => ?_) (fun e u hu _ => hu) hact
      simp only [locVal, Act.put] at hu
      by_cases hlt : d < a.tmps.size
      · simp [hlt] at hu; exact hu.symm
      · simp [hlt] at hu

/-- The own classes in a later world. -/
theorem Owns.step (h : Rel P G base R μ st a w) {vs : List Value} (hvs : Owns P base R μ st a w vs) (hb : ∀ k, k < w.heap.size → w'.heap[k]? = w.heap[k]?) (hold : ∀ b o, b < w.heap.size → R' b o → R b o) : Owns P base R' μ st a w' vs := by
  obtain ⟨hl, h1, hap⟩ := hvs
  refine ⟨hl, fun i c v hc hv => ?_, hap⟩
  have ho := h1 i c v hc hv
  refine ⟨fun l hl u hu => ?_, ho.own.keep (fun g _ hg => hb g hg) (fun g off hg => hold g off hg), ho.keys⟩
  refine ho.locs l hl u ?_
  cases l with
  | t i => exact hu
  | c k off =>
    obtain ⟨o, hk⟩ := h.locs c (List.mem_of_getElem? hc) k off hl
    obtain ⟨_, _, h3⟩ := h.objs k o hk
    rw [show locVal a w' μ (.c k off) = locVal a w μ (.c k off) from World.cell?_of_block (hb _ h3.lt)] at hu
    exact hu

theorem Owns.lt {vs : List Value} (hvs : Owns P base R μ st a w vs) {v : Value} (hv : v ∈ vs) {g : Nat} (hg : spareBlk v = some g) : g < w.heap.size := by
  obtain ⟨i, hi⟩ := List.getElem?_of_mem hv
  have hil : i < st.own.length := by rw [← hvs.len]; exact (List.getElem?_eq_some_iff.1 hi).1
  exact (hvs.one i st.own[i] v (by simp [hil]) hi).own.lt hg

/-- The world has gone on (a callee has run; a block that is no object of ours is new): nothing of ours has turned. -/
theorem Rel.step (h : Rel P G base R μ st a w) (hs : Step base R w R' w') (hb : ∀ k, k < w.heap.size → w'.heap[k]? = w.heap[k]?) (hn : ∀ b o, R' b o → ¬ R b o → w.heap.size ≤ b) (hr : ∀ b o, R' b o → b < w'.heap.size) :
    Rel P G base R' μ st a w' := by
  have hold : ∀ b o, b < w.heap.size → R' b o → R b o := fun b o hl hr' => by
    by_cases hx : R b o
    · exact hx
    · have := hn b o hr' hx; omega
  refine ⟨h.defers, h.size, fun i v d hv hd => (h.tmps i v d hv hd).of_step hs, fun k o hk => ?_, h.inj, h.locs, ?_, h.glob.of_step hs, hr, fun b hb => h.base b (Nat.le_trans hs.below.size hb), h.pass⟩
  · obtain ⟨h1, h2, h3⟩ := h.objs k o hk
    exact ⟨h1, fun off hr' => h2 off (hold _ _ h3.lt hr'), h3.of_step hs (hb _ h3.lt)⟩
  · obtain ⟨vs, hvs⟩ := h.own
    exact ⟨vs, hvs.step h hb hold⟩

theorem TV.kill {v : Value} {d : DV} (key b : Nat) (h : TV R μ w v d) : TV R (fun k => if k = key then b else μ k) w v (killRef key d) := by
  unfold killRef
  by_cases hm : mentions key d = true
  · rw [if_pos hm]; exact .undef _
  · rw [if_neg hm]
    exact h.rekey (key := key) (fun k hk => by simp [hk]) (by simpa using hm)
theorem killRef_cell {key : Nat} {d : DV} (h : d.cell = true) : (killRef key d).cell = true := by
  unfold killRef
  split
  · rfl
  · exact h
theorem ObjRel.kill {b : Nat} {o : AObj} (key b' : Nat) (h : ObjRel R μ w b o) : ObjRel R (fun k => if k = key then b' else μ k) w b (killObj key o) := by
  cases o with
  | cells cs =>
    obtain ⟨vs, T, h1, h2, h3, h4⟩ := h
    refine ⟨vs, T, h1, by simp [h2], fun i d hi => ?_, fun T' hm => ?_⟩
    · rw [List.getElem?_map] at hi
      obtain ⟨d0, hd0, rfl⟩ := Option.map_eq_some_iff.1 hi
      exact ⟨killRef_cell (h3 i d0 hd0).1, (h3 i d0 hd0).2.kill key b'⟩
    · obtain ⟨d0, hd0, he⟩ := List.mem_map.1 hm
      unfold killRef at he
      split at he
      · cases he
      · subst he; exact h4 T' hd0
  | map es => exact h
  | iter s p => exact h
  | bld T u es => exact h
theorem getKey_kill (key k : Nat) : ∀ H : List (Nat × AObj), getKey k (H.map fun p => (p.1, killObj key p.2)) = (getKey k H).map (killObj key)
  | [] => rfl
  | (k', o) :: r => by
    simp only [List.map_cons, getKey]
    split
    · rfl
    · exact getKey_kill key k r

theorem Step.alloc (R : Nat → Nat → Prop) (w : World) (o : Obj) (hb : ∀ b, w.heap.size ≤ b → base b) (hr : ∀ b o, R b o → b < w.heap.size) : Step base R w R (w.alloc o) :=
  ⟨(Keep.refl _ _).alloc hb o, fun _ _ h => h, fun _ _ h h' => absurd h h', fun b off hR => World.cell?_alloc_lt w o ⟨b, off, none⟩ (hr b off hR)⟩

/-- A NEW OBJECT. -/
theorem Rel.newObj (h : Rel P G base R μ st a w) (key : Nat) (hkey : key < 100000) (o : AObj) (ob : Obj) (hob : ObjRel R (fun k => if k = key then w.heap.size else μ k) (w.alloc ob) w.heap.size o) :
    Rel P G base R (fun k => if k = key then w.heap.size else μ k) (newObjAt st key o) a (w.alloc ob) ∧ Step base R w R (w.alloc ob) := by
  have hs : Step base R w R (w.alloc ob) := Step.alloc R w ob h.base h.rset
  have hold : ∀ k, k < w.heap.size → (w.alloc ob).heap[k]? = w.heap[k]? := fun k hk => Below.heap_alloc w ob k hk
  refine ⟨⟨h.defers, by simp [newObjAt, h.size], fun i v d hv hd => ?_, fun k o' hk => ?_, fun k k' o1 o2 h1 h2 he => ?_, fun c hc k off hl => ?_, ?_, h.glob.of_step hs, fun b off hr => by have := h.rset b off hr; simp; omega, fun b hb => h.base b (by simp at hb; omega), fun k hk => by rw [if_neg (by omega)]; exact h.pass k hk⟩, hs⟩
  · simp only [newObjAt, List.getElem?_map, Option.map_eq_some_iff] at hd
    obtain ⟨d0, hd0, rfl⟩ := hd
    exact ((h.tmps i v d0 hv hd0).of_step hs).kill key w.heap.size
  · simp only [newObjAt, getKey_setKey] at hk
    by_cases hkk : key = k
    · subst hkk
      simp at hk
      subst hk
      simp only [if_true]
      exact ⟨h.base _ (Nat.le_refl _), fun off hr => by have := h.rset _ _ hr; omega, hob⟩
    · rw [if_neg hkk, getKey_kill] at hk
      obtain ⟨o0, ho0, rfl⟩ := Option.map_eq_some_iff.1 hk
      obtain ⟨h1, h2, h3⟩ := h.objs k o0 ho0
      simp only [if_neg (Ne.symm hkk)]
      exact ⟨h1, h2, (h3.of_step hs (hold _ h3.lt)).kill key w.heap.size⟩
  · simp only [newObjAt, getKey_setKey] at h1 h2
    by_cases hk1 : key = k
    · by_cases hk2 : key = k'
      · exact hk1.symm.trans hk2
      · subst hk1
        rw [if_neg hk2, getKey_kill] at h2
        obtain ⟨o0, ho0, _⟩ := Option.map_eq_some_iff.1 h2
        obtain ⟨_, _, h3⟩ := h.objs k' o0 ho0
        have := h3.lt
        simp [Ne.symm hk2] at he
        omega
    · rw [if_neg hk1, getKey_kill] at h1
      obtain ⟨o0, ho0, _⟩ := Option.map_eq_some_iff.1 h1
      obtain ⟨_, _, h3⟩ := h.objs k o0 ho0
      have hlt := h3.lt
      by_cases hk2 : key = k'
      · subst hk2
        simp [Ne.symm hk1] at he
        omega
      · rw [if_neg hk2, getKey_kill] at h2
        obtain ⟨o3, ho3, _⟩ := Option.map_eq_some_iff.1 h2
        simp only [if_neg (Ne.symm hk1), if_neg (Ne.symm hk2)] at he
        exact h.inj k k' o0 o3 ho0 ho3 he
  · obtain ⟨i, hi⟩ := List.getElem?_of_mem hc
    simp only [newObjAt] at hi
    obtain ⟨c', hc', _, hm⟩ := mem_dropKey hi
    have := (hm _).1 hl
    obtain ⟨o', ho'⟩ := h.locs c' (List.mem_of_getElem? hc') k off this.1
    simp only [newObjAt, getKey_setKey]
    split
    · exact ⟨_, rfl⟩
    · rw [getKey_kill, ho']; exact ⟨_, rfl⟩
  · obtain ⟨vs, hl, h1, hap⟩ := h.own
    refine ⟨vs, by simpa [newObjAt, dropKey] using hl, fun i c v hc hv => ?_, hap⟩
    simp only [newObjAt] at hc
    obtain ⟨c', hc', he, hm⟩ := mem_dropKey hc
    have ho := h1 i c' v hc' hv
    refine ⟨fun l hl u hu => ?_, by rw [he]; exact ho.own.keep (fun g _ hg => hold g hg) (fun g off _ hr => hr), fun k o' hk => ?_⟩
    · have hx := (hm l).1 hl
      refine ho.locs l hx.1 u ?_
      cases l with
      | t i => exact hu
      | c k off =>
        have hkk : k ≠ key := by simpa [Loc.ofKey] using hx.2
        obtain ⟨o', ho'⟩ := h.locs c' (List.mem_of_getElem? hc') k off hx.1
        obtain ⟨_, _, h3⟩ := h.objs k o' ho'
        simp only [locVal, if_neg hkk] at hu ⊢
        rw [← hu]
        exact (World.cell?_of_block (hold _ h3.lt)).symm
    · simp only [newObjAt, getKey_setKey] at hk
      by_cases hkk : key = k
      · subst hkk
        simp only [if_true]
        intro hsp
        have := ho.own.lt hsp
        omega
      · rw [if_neg hkk, getKey_kill] at hk
        obtain ⟨o0, ho0, _⟩ := Option.map_eq_some_iff.1 hk
        simp only [if_neg (Ne.symm hkk)]
        exact ho.keys k o0 ho0
end
end Go.VM

set_option linter.unusedVariables false
set_option linter.unusedSimpArgs false
set_option linter.unusedSectionVars false
namespace Go.VM
open Go Go.RowKit

section
variable {P : Program} {G : GT} {base : Base} {R : Nat → Nat → Prop} {μ : Nat → Nat} {st : St} {a : Act} {w : World}

theorem ofScalar_V {v : Value} {x : D} (h : ofScalar v = some x) : V R w v x ∧ x.one = true := by
  unfold ofScalar at h
  split at h <;> simp at h <;> subst h
  · exact ⟨.int _ _, rfl⟩
  · exact ⟨.bool _, rfl⟩
  · rename_i s
    have := V.str (R := R) (w := w) s.data.toList
    simp only [Array.toArray_toList] at this
    exact ⟨this, rfl⟩
  · exact ⟨.nils _, rfl⟩
theorem ofScalars_V : ∀ {l : List Value} {ds : List D}, ofScalars l = some ds → l.length = ds.length ∧ ∀ (i : Nat) (d : D), ds[i]? = some d → V R w (l.getD i undef) d ∧ d.one = true
  | [], ds, h => by simp [ofScalars] at h; subst h; simp
  | v :: l, ds, h => by
    unfold ofScalars at h
    split at h <;> simp at h
    rename_i x ds' h1 h2
    subst h
    obtain ⟨h3, h4⟩ := ofScalars_V (l := l) h2
    refine ⟨by simp [h3], fun i d hi => ?_⟩
    cases i with
    | zero => simp at hi; subst hi; exact ofScalar_V h1
    | succ i => simp at hi; simpa using h4 i d hi
theorem ofConst_TV (v : Value) : TV R μ w v (ofConst v) := by
  unfold ofConst
  split
  · rename_i cs
    split
    · rename_i ds h
      obtain ⟨h1, h2⟩ := ofScalars_V (R := R) (w := w) h
      exact .d _ _ (.agg cs ds (by simpa using h1) (fun i d hi => (h2 i d hi).2) fun i d hi => by have := (h2 i d hi).1; simpa [Array.getD_eq_getD_getElem?, List.getD] using this)
    · exact .undef _
  · split
    · rename_i x h; exact .d _ _ (ofScalar_V h).1
    · exact .undef _

theorem Rel.eval (h : Rel P G base R μ st a w) (x : Operand) : TV R μ w (a.eval x) (st.eval G x) := by
  cases x with
  | tmp t =>
    simp only [Act.eval, St.eval]
    by_cases ht : t < a.tmps.size
    · have h1 : a.tmps[t]? = some (a.tmps.getD t undef) := by simp [ht]
      have h2 : st.tmps[t]? = some (st.tmps.getD t (.tup [])) := by
        have : t < st.tmps.length := by rw [← h.size]; exact ht
        simp [this, List.getD]
      exact h.tmps t _ _ h1 h2
    · have h3 : ¬ t < st.tmps.length := by rw [← h.size]; exact ht
      have h1 : a.tmps.getD t undef = .tuple #[] := by simp [Array.getD, ht]; rfl
      have h2 : st.tmps.getD t (.tup []) = .tup [] := by simp [List.getD, List.getElem?_eq_none (Nat.le_of_not_lt h3)]
      rw [h1, h2]
      exact .tup _ _ rfl (by simp)
  | const v => exact ofConst_TV v
  | global g =>
    simp only [Act.eval, St.eval]
    split
    · rename_i cs hg; exact .ep g 0 cs (h.glob g cs hg).1
    · exact .undef _
  | func f => exact .fn f

theorem TV.dinv {v : Value} {d : D} (h : TV R μ w v (.d d)) : V R w v d := by cases h; assumption
theorem Rel.evalD (h : Rel P G base R μ st a w) {x : Operand} {d : D} (hx : st.eval G x = .d d) : V R w (a.eval x) d := by
  have := h.eval x
  rw [hx] at this
  exact this.dinv

theorem Rel.slAct (h : Rel P G base R μ st a w) (x : Operand) : ActOk P base R μ st a w (a.eval x) (slAct (st.eval G x) (tmpAct x)) := by
  unfold Go.VM.slAct
  split
  · rename_i es hx
    cases x with
    | tmp s =>
      show a.tmps[s]? = some (a.tmps.getD s undef)
      by_cases hs : s < a.tmps.size
      · simp [hs]
      · have h3 : ¬ s < st.tmps.length := by rw [← h.size]; exact hs
        simp [St.eval, List.getD, List.getElem?_eq_none (Nat.le_of_not_lt h3)] at hx
    | _ => trivial
  · trivial
theorem Rel.slActD (h : Rel P G base R μ st a w) {x : Operand} {y : D} (hx : st.eval G x = .d y) : ActOk P base R μ st a w (a.eval x) (Go.VM.slAct (.d y) (tmpAct x)) := by
  rw [← hx]; exact h.slAct x

/-- WHAT IS ASKED OF AN OPERATION. -/
def OpOk (P : Program) (G : GT) (o : Oper) (st : St) (out : Out) : Prop :=
  ∀ base R μ a w, Rel P G base R μ st a w → ∃ v w' R' μ', ((execOp a.eval o).run P w = .ok (.value v) w' ∨ ((execOp a.eval o).run P w = .ok .skip w' ∧ v = Go.undef)) ∧
    Rel P G base R' μ' out.st a w' ∧ TV R' μ' w' v out.v ∧ ActOk P base R' μ' out.st a w' v out.act ∧ Step base R w R' w'

theorem opOk_pure {o : Oper} {v' : DV} {act : OA} (h : ∀ base R μ a w, Rel P G base R μ st a w → ∃ v, (execOp a.eval o).run P w = .ok (.value v) w ∧ TV R μ w v v' ∧ ActOk P base R μ st a w v act) : OpOk P G o st ⟨v', act, st⟩ := by
  intro base R μ a w hr
  obtain ⟨v, h1, h2, h3⟩ := h base R μ a w hr
  exact ⟨v, w, R, μ, .inl h1, hr, h2, h3, .refl _ _ _⟩

theorem info_of_underlying {t : TypeId} {d : TypeDesc} (h : P.underlying t = some d) : ∃ i, P.info? t = some i ∧ i.size = P.cellsOf t ∧ i.bytes = P.bytesOf t := by
  unfold Program.underlying at h
  cases hi : P.info? t with
  | none => simp [hi] at h
  | some i => exact ⟨i, rfl, by simp [Program.cellsOf, hi], by simp [Program.bytesOf, hi]⟩

theorem run_sizeOf {t : TypeId} {d : TypeDesc} (h : P.underlying t = some d) (w : World) : (sizeOf t).run P w = .ok (P.cellsOf t) w := by
  obtain ⟨i, h1, h2, _⟩ := info_of_underlying h
  simp [sizeOf, typeInfo, h1, h2]

theorem run_isAgg {t : TypeId} {d : TypeDesc} (h : P.underlying t = some d) (w : World) : (isAgg t).run P w = .ok (descAgg d) w := by
  unfold isAgg
  simp only [Sem.run_bind, run_underlying h, Result.andThen_ok]
  cases d <;> rfl

theorem add_none (b o j : Nat) : (⟨b, o, none⟩ : Addr).add j = ⟨b, o + j, none⟩ := by unfold Addr.add; split <;> simp_all

/-- Cells that are there and read as cs. -/
def Run0 (R : Nat → Nat → Prop) (w : World) (b o : Nat) (cs : List D) : Prop := ∀ (j : Nat) (d : D), cs[j]? = some d → d.one = true ∧ ∃ v, w.cell? ⟨b, o + j, none⟩ = some v ∧ V R w v d
theorem Run.run0 {b o : Nat} {cs : List D} (h : Run R w b o cs) : Run0 R w b o cs := fun j d hj => ⟨(h j d hj).1, (h j d hj).2.2⟩
theorem Run0.drop {b o : Nat} {cs : List D} (h : Run0 R w b o cs) (n : Nat) : Run0 R w b (o + n) (cs.drop n) := fun j d hj => by
  rw [List.getElem?_drop] at hj
  have := h _ d hj
  rwa [← Nat.add_assoc] at this
theorem Run.drop {b o : Nat} {cs : List D} (h : Run R w b o cs) (n : Nat) : Run R w b (o + n) (cs.drop n) := fun j d hj => by
  rw [List.getElem?_drop] at hj
  have := h _ d hj
  rwa [← Nat.add_assoc] at this
/-- Cells of an object. -/
def RunV (R : Nat → Nat → Prop) (μ : Nat → Nat) (w : World) (b o : Nat) (cs : List DV) : Prop := ∀ (j : Nat) (d : DV), cs[j]? = some d → d.cell = true ∧ ∃ v, w.cell? ⟨b, o + j, none⟩ = some v ∧ TV R μ w v d
theorem RunV.drop {b o : Nat} {cs : List DV} (h : RunV R μ w b o cs) (n : Nat) : RunV R μ w b (o + n) (cs.drop n) := fun j d hj => by
  rw [List.getElem?_drop] at hj
  have := h _ d hj
  rwa [← Nat.add_assoc] at this
theorem RunV.of_obj {b : Nat} {cs : List DV} (h : ObjRel R μ w b (.cells cs)) : RunV R μ w b 0 cs := fun j d hj => by
  obtain ⟨vs, T, hh, hsz, hcs, _⟩ := h
  obtain ⟨h1, h2⟩ := hcs j d hj
  have hlt : j < vs.size := by rw [hsz]; exact (List.getElem?_eq_some_iff.1 hj).1
  refine ⟨h1, vs.getD j undef, ?_, h2⟩
  rw [Nat.zero_add, cell_of_row w _ _ vs T (0, 0) hh]
  simp [hlt]
theorem allD_eq : ∀ {l : List DV} {ds : List D}, allD l = some ds → l = ds.map .d
  | [], ds, h => by simp [allD] at h; subst h; rfl
  | .d x :: l, ds, h => by
    simp only [allD] at h
    split at h
    · rename_i ds' h'
      simp at h
      subst h
      rw [allD_eq h']
      rfl
    · cases h
  | .undef :: _, _, h | .ptr _ _ :: _, _, h | .ep _ :: _, _, h | .mp _ :: _, _, h | .it _ :: _, _, h | .tup _ :: _, _, h | .fn _ :: _, _, h | .nilp _ :: _, _, h | .anyb :: _, _, h | .clo _ _ :: _, _, h | .ag _ :: _, _, h => by simp [allD] at h
theorem RunV.run0 {b o : Nat} {ds : List D} (h : RunV R μ w b o (ds.map .d)) : Run0 R w b o ds := fun j d hj => by
  obtain ⟨h1, v, h2, h3⟩ := h j (.d d) (by simp [hj])
  exact ⟨h1, v, h2, h3.dinv⟩

/-- A load from a run of cells. -/
theorem run_loadVar_run {t : TypeId} {b o : Nat} {cs : List D} {y : D} (hrun : Run0 R w b o cs) (ht : takeD P t cs = some y) :
    ∃ v, (loadVar t ⟨b, o, none⟩).run P w = .ok v w ∧ V R w v y ∧ (∀ es, y = .sl es → w.cell? ⟨b, o, none⟩ = some v) := by
  unfold takeD at ht
  split at ht
  · rename_i d hd
    split at ht
    · rename_i hagg
      split at ht
      · rename_i hle
        simp at ht
        subst ht
        have hc : ∀ j, j < P.cellsOf t → ∃ v, w.cell? ⟨b, o + j, none⟩ = some v ∧ ∀ d, cs[j]? = some d → d.one = true ∧ V R w v d := fun j hj => by
          have hlt : j < cs.length := by omega
          obtain ⟨h1, v, h3, h4⟩ := hrun j cs[j] (by simp [hlt])
          exact ⟨v, h3, fun d hd => by simp [hlt] at hd; subst hd; exact ⟨h1, h4⟩⟩
        have hf : ∀ j, j < P.cellsOf t → w.cell? ((⟨b, o, none⟩ : Addr).add j) = some ((w.cell? ⟨b, o + j, none⟩).getD undef) := fun j hj => by
          obtain ⟨v, hv, _⟩ := hc j hj
          rw [add_none, hv]; rfl
        refine ⟨.agg ((List.range (P.cellsOf t)).map fun j => (w.cell? ⟨b, o + j, none⟩).getD undef).toArray, ?_, .agg _ _ (by simp; omega) (fun i d hi => ?_) (fun i d hi => ?_), by simp⟩
        · unfold loadVar
          simp only [Sem.run_bind, run_isAgg hd, Result.andThen_ok, hagg, if_true, run_sizeOf hd, run_loadCells (P := P) w _ _ _ hf, Sem.run_pure]
        · rw [List.getElem?_take] at hi
          split at hi
          · rename_i hlt; obtain ⟨v, _, hv⟩ := hc i hlt; exact (hv d hi).1
          · cases hi
        · rw [List.getElem?_take] at hi
          split at hi
          · rename_i hlt
            obtain ⟨v, hv, hvd⟩ := hc i hlt
            simp [Array.getD_eq_getD_getElem?, hlt, hv]
            exact (hvd d hi).2
          · cases hi
      · cases ht
    · rename_i hagg
      have h0 : cs[0]? = some y := by rw [← List.head?_eq_getElem?]; exact ht
      obtain ⟨_, v, h3, h4⟩ := hrun 0 y h0
      refine ⟨v, ?_, h4, fun _ _ => by simpa using h3⟩
      unfold loadVar
      simp only [Nat.add_zero] at h3
      simp only [Sem.run_bind, run_isAgg hd, Result.andThen_ok, hagg, Bool.false_eq_true, if_false, run_load, h3]
  · cases ht
theorem takeA_cases {cs : List DV} {y : DV} (h : takeA cs = some y) : (∃ ds, allD cs = some ds ∧ y = .d (.agg ds)) ∨ (cs.all solid = true ∧ y = .ag cs) := by
  unfold takeA at h
  split at h
  · rename_i ds hd
    cases h
    exact .inl ⟨ds, hd, rfl⟩
  · split at h
    · rename_i ha
      cases h
      exact .inr ⟨ha, rfl⟩
    · cases h
theorem TV.solid {v : Value} {c : DV} (h : TV R μ w v c) (hs : Go.VM.solid c = true) : v.oneCell' = true := by
  cases h with
  | d v x h => exact h.oneCell hs
  | undef v => cases hs
  | ptr k off => rfl
  | ep b o cs h => rfl
  | mp k => rfl
  | it k => cases hs
  | tup vs ds h1 h2 => cases hs
  | fn f => rfl
  | anyb b => rfl
  | nilp T => cases hs
  | clo f vs cs h1 h2 => rfl
  | ag vs cs h1 h2 h3 h4 => cases hs
theorem run_loadVar_runV {t : TypeId} {b o : Nat} {cs : List DV} {y : DV} (hrun : RunV R μ w b o cs) (ht : takeV P t cs = some y) :
    ∃ v, (loadVar t ⟨b, o, none⟩).run P w = .ok v w ∧ TV R μ w v y ∧ (∀ es, y = .d (.sl es) → w.cell? ⟨b, o, none⟩ = some v) := by
  unfold takeV at ht
  split at ht
  · rename_i d hd
    split at ht
    · rename_i hagg
      split at ht
      · rename_i hle
        rcases takeA_cases ht with ⟨ds, hds, rfl⟩ | ⟨hall, rfl⟩
        · have he := allD_eq hds
          have hl : ds.length = P.cellsOf t := by
            have := congrArg List.length he
            simp at this
            omega
          have h0 : Run0 R w b o ds := RunV.run0 (μ := μ) fun j x hj => hrun j x (by
            rw [← he, List.getElem?_take] at hj
            split at hj
            · exact hj
            · cases hj)
          obtain ⟨v, h1, h2, h3⟩ := run_loadVar_run (P := P) (t := t) h0 (y := .agg ds) (by unfold takeD; rw [hd]; simp only [hagg, if_true]; rw [if_pos (by omega), ← hl, List.take_length])
          exact ⟨v, h1, .d _ _ h2, fun es he => by cases he⟩
        · have hc : ∀ j, j < P.cellsOf t → ∃ v, w.cell? ⟨b, o + j, none⟩ = some v ∧ ∀ d, (cs.take (P.cellsOf t))[j]? = some d → d.cell = true ∧ TV R μ w v d ∧ v.oneCell' = true := fun j hj => by
            have hlt : j < cs.length := by omega
            obtain ⟨h1, v, h3, h4⟩ := hrun j cs[j] (by simp [hlt])
            refine ⟨v, h3, fun d hd => ?_⟩
            rw [List.getElem?_take, if_pos hj, List.getElem?_eq_getElem hlt] at hd
            cases hd
            refine ⟨h1, h4, h4.solid ?_⟩
            exact List.all_eq_true.1 hall _ (List.mem_of_getElem? (i := j) (by rw [List.getElem?_take, if_pos hj, List.getElem?_eq_getElem hlt]))
          have hf : ∀ j, j < P.cellsOf t → w.cell? ((⟨b, o, none⟩ : Addr).add j) = some ((w.cell? ⟨b, o + j, none⟩).getD undef) := fun j hj => by
            obtain ⟨v, hv, _⟩ := hc j hj
            rw [add_none, hv]; rfl
          have hlen : (cs.take (P.cellsOf t)).length = P.cellsOf t := by simp; omega
          have hat : ∀ (i : Nat) (d : DV), (cs.take (P.cellsOf t))[i]? = some d → d.cell = true ∧ TV R μ w ((((List.range (P.cellsOf t)).map fun j => (w.cell? ⟨b, o + j, none⟩).getD undef).toArray).getD i Go.undef) d ∧ ((((List.range (P.cellsOf t)).map fun j => (w.cell? ⟨b, o + j, none⟩).getD undef).toArray).getD i Go.undef).oneCell' = true := fun i d hi => by
            have hlt : i < P.cellsOf t := by rw [← hlen]; exact (List.getElem?_eq_some_iff.1 hi).1
            obtain ⟨v, hv, hvd⟩ := hc i hlt
            simp [Array.getD_eq_getD_getElem?, hlt, hv]
            exact hvd d hi
          refine ⟨.agg ((List.range (P.cellsOf t)).map fun j => (w.cell? ⟨b, o + j, none⟩).getD undef).toArray, ?_, .ag _ _ (by simp; omega) (fun i hi => (hat i _ (List.getElem?_eq_getElem hi)).2.2) (fun i d hi => (hat i d hi).1) (fun i d hi => (hat i d hi).2.1), by simp⟩
          unfold loadVar
          simp only [Sem.run_bind, run_isAgg hd, Result.andThen_ok, hagg, if_true, run_sizeOf hd, run_loadCells (P := P) w _ _ _ hf, Sem.run_pure]
      · cases ht
    · rename_i hagg
      have h0 : cs[0]? = some y := by rw [← List.head?_eq_getElem?]; exact ht
      obtain ⟨_, v, h3, h4⟩ := hrun 0 y h0
      refine ⟨v, ?_, h4, fun _ _ => by simpa using h3⟩
      unfold loadVar
      simp only [Nat.add_zero] at h3
      simp only [Sem.run_bind, run_isAgg hd, Result.andThen_ok, hagg, Bool.false_eq_true, if_false, run_load, h3]
  · cases ht
theorem NilsOk.overwrite {T : TypeId} {cs ys : List DV} (h : NilsOk T cs) (hy : ys.all noNil = true) (off : Nat) : NilsOk T (Go.VM.overwrite cs off ys) := fun T' hm => by
  unfold Go.VM.overwrite at hm
  rw [List.mem_append, List.mem_append] at hm
  rcases hm with (hm | hm) | hm
  · exact h T' (List.mem_of_mem_take hm)
  · exact NilsOk.of_noNil hy T' hm
  · exact h T' (List.mem_of_mem_drop hm)
theorem vcells_ag {cs' cs : List DV} (hc : Go.VM.vcells (.ag cs') = some cs) : cs'.all noNil = true ∧ cs = cs' := by
  simp only [Go.VM.vcells] at hc
  split at hc
  · rename_i h; cases hc; exact ⟨h, rfl⟩
  · cases hc
theorem vcells_noNil {d : DV} {cs : List DV} (hc : Go.VM.vcells d = some cs) : cs.all noNil = true := by
  cases d with
  | d y => cases hc; exact List.all_eq_true.2 fun c hm => by obtain ⟨y, _, rfl⟩ := List.mem_map.1 hm; rfl
  | ag cs' => obtain ⟨h, rfl⟩ := vcells_ag hc; exact h
  | undef => cases hc
  | it _ => cases hc
  | tup _ => cases hc
  | nilp _ => cases hc
  | ptr _ _ => cases hc; rfl
  | ep _ => cases hc; rfl
  | mp _ => cases hc; rfl
  | fn _ => cases hc; rfl
  | anyb => cases hc; rfl
  | clo _ _ => cases hc; rfl
theorem vcells_ok {v : Value} {d : DV} {cs : List DV} (h : TV R μ w v d) (hc : Go.VM.vcells d = some cs) :
    v.cells.size = cs.length ∧ ∀ (i : Nat) (c : DV), cs[i]? = some c → c.cell = true ∧ TV R μ w (v.cells.getD i undef) c ∧ (v.cells.getD i undef).oneCell' = true := by
  have one : ∀ (u : Value) (c : DV), u.cells = #[u] → u.oneCell' = true → c.cell = true → TV R μ w u c → u.cells.size = [c].length ∧ ∀ (i : Nat) (c' : DV), [c][i]? = some c' → c'.cell = true ∧ TV R μ w (u.cells.getD i undef) c' ∧ (u.cells.getD i undef).oneCell' = true := fun u c h1 h2 h3 h4 => by
    rw [h1]
    refine ⟨rfl, fun i c' hi => ?_⟩
    cases i with
    | zero => simp at hi; subst hi; exact ⟨h3, h4, h2⟩
    | succ i => simp at hi
  cases h with
  | d v x h =>
    simp only [Go.VM.vcells, Option.some.injEq] at hc
    subst hc
    obtain ⟨h1, h2⟩ := h.cells
    refine ⟨by simp [h1], fun i c hi => ?_⟩
    rw [List.getElem?_map] at hi
    obtain ⟨y, hy, rfl⟩ := Option.map_eq_some_iff.1 hi
    obtain ⟨h3, h4⟩ := h2 i y hy
    exact ⟨h3, .d _ _ h4, h4.oneCell h3⟩
  | undef v => cases hc
  | it k => cases hc
  | tup vs ds h1 h2 => cases hc
  | ptr k off => cases hc; exact one _ _ rfl rfl rfl (.ptr k off)
  | ep b o cs h => cases hc; exact one _ _ rfl rfl rfl (.ep b o cs h)
  | mp k => cases hc; exact one _ _ rfl rfl rfl (.mp k)
  | fn f => cases hc; exact one _ _ rfl rfl rfl (.fn f)
  | anyb b => cases hc; exact one _ _ rfl rfl rfl (.anyb b)
  | nilp T => cases hc
  | clo f vs cs h1 h2 => cases hc; exact one _ _ rfl rfl rfl (.clo f vs cs h1 h2)
  | ag vs cs h1 h2 h3 h4 =>
    obtain ⟨_, rfl⟩ := vcells_ag hc
    exact ⟨h1, fun i c hi => ⟨h3 i c hi, h4 i c hi, h2 i (List.getElem?_eq_some_iff.1 hi).1⟩⟩
end
end Go.VM

set_option linter.unusedVariables false
set_option linter.unusedSimpArgs false
set_option linter.unusedSectionVars false
namespace Go.VM
open Go Go.RowKit

section
variable {P : Program} {G : GT} {st : St} {out : Out}

theorem vMove_ok {o : Oper} {x : Operand} (ho : o.op = .move x ∨ o.op = .assign x) (h : vMove G x st = some out) : OpOk P G o st out := by
  simp only [vMove, Option.some.injEq] at h
  subst h
  refine opOk_pure fun base R μ a w hr => ⟨a.eval x, ?_, hr.eval x, hr.slAct x⟩
  rcases ho with ho | ho <;> simp [execOp, ho]

theorem V.bool_inv {R : Nat → Nat → Prop} {w : World} {v : Value} {b : Bool} (h : V R w v (.bool b)) : v = .bool b := by cases h; rfl
theorem V.int_inv {R : Nat → Nat → Prop} {w : World} {v : Value} {k : IntKind} {n : Int} (h : V R w v (.int k n)) : v = .int k n := by cases h; rfl
theorem V.str_inv {R : Nat → Nat → Prop} {w : World} {v : Value} {s : List UInt8} (h : V R w v (.str s)) : v = .string ⟨s.toArray⟩ := by cases h; rfl
theorem V.nils_inv {R : Nat → Nat → Prop} {w : World} {v : Value} (h : V R w v .nils) : ∃ ao, v = .slice ao 0 0 := by cases h; exact ⟨_, rfl⟩
theorem V.agg_inv {R : Nat → Nat → Prop} {w : World} {v : Value} {ds : List D} (h : V R w v (.agg ds)) : ∃ cs, v = .agg cs ∧ cs.size = ds.length ∧ (∀ (i : Nat) (d : D), ds[i]? = some d → d.one = true ∧ V R w (cs.getD i undef) d) := by
  cases h; exact ⟨_, rfl, by assumption, fun i d hi => ⟨by rename_i h _; exact h i d hi, by rename_i h; exact h i d hi⟩⟩
theorem TV.ptr_inv {R : Nat → Nat → Prop} {μ : Nat → Nat} {w : World} {v : Value} {k off : Nat} (h : TV R μ w v (.ptr k off)) : v = .pointer (some ⟨μ k, off, none⟩) := by cases h; rfl
theorem TV.ep_inv {R : Nat → Nat → Prop} {μ : Nat → Nat} {w : World} {v : Value} {cs : List D} (h : TV R μ w v (.ep cs)) : ∃ b o, v = .pointer (some ⟨b, o, none⟩) ∧ Run R w b o cs := by cases h; exact ⟨_, _, rfl, by assumption⟩
theorem TV.mp_inv {R : Nat → Nat → Prop} {μ : Nat → Nat} {w : World} {v : Value} {k : Nat} (h : TV R μ w v (.mp k)) : v = .map (some (μ k)) := by cases h; rfl
theorem TV.it_inv {R : Nat → Nat → Prop} {μ : Nat → Nat} {w : World} {v : Value} {k : Nat} (h : TV R μ w v (.it k)) : v = .pointer (some ⟨μ k, 0, none⟩) := by cases h; rfl
theorem TV.fn_inv {R : Nat → Nat → Prop} {μ : Nat → Nat} {w : World} {v : Value} {f : FuncId} (h : TV R μ w v (.fn f)) : v = .func (.func f) #[] #[] := by cases h; rfl
theorem TV.clo_inv {R : Nat → Nat → Prop} {μ : Nat → Nat} {w : World} {v : Value} {f : FuncId} {cs : List DV} (h : TV R μ w v (.clo f cs)) : ∃ vs, v = .func (.func f) #[] vs ∧ vs.size = cs.length ∧ ∀ (i : Nat) (c : DV), cs[i]? = some c → TV R μ w (vs.getD i Go.undef) c := by
  cases h; exact ⟨_, rfl, by assumption, by assumption⟩
theorem TV.tup_inv {R : Nat → Nat → Prop} {μ : Nat → Nat} {w : World} {v : Value} {ds : List D} (h : TV R μ w v (.tup ds)) : ∃ vs, v = .tuple vs ∧ vs.size = ds.length ∧ (∀ (i : Nat) (d : D), ds[i]? = some d → V R w (vs.getD i Go.undef) d) := by
  cases h; exact ⟨_, rfl, by assumption, by assumption⟩

section
variable {base : Base} {R : Nat → Nat → Prop} {μ : Nat → Nat} {a : Act} {w : World}
theorem Rel.evalTV (h : Rel P G base R μ st a w) {x : Operand} {d : DV} (hx : st.eval G x = d) : TV R μ w (a.eval x) d := by rw [← hx]; exact h.eval x
theorem Rel.evalPtr (h : Rel P G base R μ st a w) {x : Operand} {k off : Nat} (hx : st.eval G x = .ptr k off) : a.eval x = .pointer (some ⟨μ k, off, none⟩) := (h.evalTV hx).ptr_inv
theorem Rel.evalInt (h : Rel P G base R μ st a w) {x : Operand} {k : IntKind} {n : Int} (hx : st.eval G x = .d (.int k n)) : a.eval x = .int k n := (h.evalD hx).int_inv
theorem Rel.evalBool (h : Rel P G base R μ st a w) {x : Operand} {b : Bool} (hx : st.eval G x = .d (.bool b)) : a.eval x = .bool b := (h.evalD hx).bool_inv
theorem Rel.evalAny (h : Rel P G base R μ st a w) {x : Operand} (hx : st.eval G x = .anyb) : ∃ b, a.eval x = .bool b := by
  have := h.evalTV hx
  generalize a.eval x = v at this
  cases this with
  | anyb b => exact ⟨b, rfl⟩
theorem Rel.evalStr (h : Rel P G base R μ st a w) {x : Operand} {s : List UInt8} (hx : st.eval G x = .d (.str s)) : a.eval x = .string ⟨s.toArray⟩ := (h.evalD hx).str_inv
theorem Rel.evalMp (h : Rel P G base R μ st a w) {x : Operand} {k : Nat} (hx : st.eval G x = .mp k) : a.eval x = .map (some (μ k)) := (h.evalTV hx).mp_inv
theorem Rel.evalIt (h : Rel P G base R μ st a w) {x : Operand} {k : Nat} (hx : st.eval G x = .it k) : a.eval x = .pointer (some ⟨μ k, 0, none⟩) := (h.evalTV hx).it_inv
theorem Rel.evalFn (h : Rel P G base R μ st a w) {x : Operand} {f : FuncId} (hx : st.eval G x = .fn f) : a.eval x = .func (.func f) #[] #[] := (h.evalTV hx).fn_inv
end

theorem vPick_ok {o : Oper} {c x y : Operand} (ho : o.op = .pick c x y) (h : vPick G c x y st = some out) : OpOk P G o st out := by
  unfold vPick at h
  split at h <;> simp at h
  rename_i t hc
  subst h
  refine opOk_pure fun base R μ a w hr => ⟨if t then a.eval x else a.eval y, ?_, ?_, trivial⟩
  · simp [execOp, ho, hr.evalBool hc, asBool]
  · cases t
    · exact hr.eval y
    · exact hr.eval x

theorem vLoad_ok {o : Oper} {t : TypeId} {x : Operand} (ho : o.op = .load t x) (h : vLoad P G t x st = some out) : OpOk P G o st out := by
  unfold vLoad at h
  split at h
  · rename_i k off hx
    split at h
    · rename_i cs hk
      simp only [Option.map_eq_some_iff] at h
      obtain ⟨y, hy, rfl⟩ := h
      refine opOk_pure fun base R μ a w hr => ?_
      obtain ⟨_, _, hob⟩ := hr.objs k _ hk
      have hrun := (RunV.of_obj hob).drop off
      rw [Nat.zero_add] at hrun
      obtain ⟨v, h1, h2, h3⟩ := run_loadVar_runV (P := P) hrun hy
      refine ⟨v, ?_, h2, ?_⟩
      · simp [execOp, ho, hr.evalPtr hx, Instr.loadAt, Instr.sureAddr, h1]
      · unfold slAct
        split
        · rename_i es
          exact h3 es rfl
        · trivial
    · cases h
  · rename_i cs hx
    simp only [Option.map_eq_some_iff] at h
    obtain ⟨y, hy, rfl⟩ := h
    refine opOk_pure fun base R μ a w hr => ?_
    obtain ⟨b, off, he, hrun⟩ := (hr.evalTV hx).ep_inv
    obtain ⟨v, h1, h2, h3⟩ := run_loadVar_run (P := P) hrun.run0 hy
    exact ⟨v, by simp [execOp, ho, he, Instr.loadAt, Instr.sureAddr, h1], .d _ _ h2, trivial⟩
  · cases h

theorem vNilCheck_ok {o : Oper} {x : Operand} (ho : o.op = .nilCheck x) (h : vNilCheck G x st = some out) : OpOk P G o st out := by
  unfold vNilCheck at h
  split at h <;> simp at h <;> subst h
  · rename_i k off hx
    exact opOk_pure fun base R μ a w hr => ⟨a.eval x, by simp [execOp, ho, hr.evalPtr hx], hr.evalTV hx, trivial⟩
  · rename_i cs hx
    refine opOk_pure fun base R μ a w hr => ⟨a.eval x, ?_, hr.evalTV hx, trivial⟩
    obtain ⟨b, off, he, hrun⟩ := (hr.evalTV hx).ep_inv
    simp [execOp, ho, he]
  · rename_i f hx
    exact opOk_pure fun base R μ a w hr => ⟨a.eval x, by simp [execOp, ho, hr.evalFn hx], hr.evalTV hx, trivial⟩
  · rename_i f cs hx
    refine opOk_pure fun base R μ a w hr => ⟨a.eval x, ?_, hr.evalTV hx, trivial⟩
    obtain ⟨vs, he, _⟩ := (hr.evalTV hx).clo_inv
    simp [execOp, ho, he]

theorem vUn_ok {o : Oper} {op : UnOp} {t : TypeId} {x : Operand} (ho : o.op = .unOp op t x) (h : vUn G op x st = some out) : OpOk P G o st out := by
  unfold vUn at h
  split at h
  · rename_i y hx
    simp only [Option.map_eq_some_iff] at h
    obtain ⟨c, hc, rfl⟩ := h
    unfold dunary at hc
    split at hc <;> simp only [Option.some.injEq, reduceCtorEq] at hc <;> subst hc
    · rename_i k n
      exact opOk_pure fun base R μ a w hr => ⟨.int k (k.wrap (0 - n)), by simp [execOp, ho, hr.evalInt hx, Op.unary, Op.intArith], .d _ _ (.int _ _), trivial⟩
    · rename_i b
      exact opOk_pure fun base R μ a w hr => ⟨.bool !b, by simp [execOp, ho, hr.evalBool hx, Op.unary], .d _ _ (.bool _), trivial⟩
  · cases h

theorem vExtract_ok {o : Oper} {x : Operand} {i : Nat} (ho : o.op = .extract x i) (h : vExtract G x i st = some out) : OpOk P G o st out := by
  unfold vExtract at h
  split at h
  · rename_i ds hx
    simp only [Option.map_eq_some_iff] at h
    obtain ⟨y, hy, rfl⟩ := h
    refine opOk_pure fun base R μ a w hr => ?_
    obtain ⟨vs, he, hsz, hv⟩ := (hr.evalTV hx).tup_inv
    have hlt : i < vs.size := by rw [hsz]; exact (List.getElem?_eq_some_iff.1 hy).1
    exact ⟨vs.getD i undef, by simp [execOp, ho, he, Instr.extract, hlt], .d _ _ (hv i y hy), trivial⟩
  · cases h

theorem fieldOf_spec {t : TypeId} {i off : Nat} {u : TypeId} (h : fieldOf P t i = some (off, u)) : ∃ fs f, P.underlying t = some (.struct fs) ∧ fs[i]? = some f ∧ f.offset = off ∧ f.type = u := by
  unfold fieldOf at h
  split at h
  · rename_i fs hfs
    simp only [Option.map_eq_some_iff] at h
    obtain ⟨f, hf, he⟩ := h
    simp at he
    exact ⟨fs, f, hfs, hf, he.1, he.2⟩
  · cases h

/-- A part of an aggregate. -/
theorem run_part {R : Nat → Nat → Prop} {w : World} {u : TypeId} {cs : Array Value} {ds : List D} {off : Nat} {y : D} (hsz : cs.size = ds.length)
    (hv : ∀ (i : Nat) (d : D), ds[i]? = some d → d.one = true ∧ V R w (cs.getD i undef) d) (ht : takeD P u (ds.drop off) = some y) : ∃ v, (part u cs off).run P w = .ok v w ∧ V R w v y := by
  unfold takeD at ht
  split at ht
  · rename_i d hd
    split at ht
    · rename_i hagg
      split at ht
      · rename_i hle
        simp at ht
        subst ht
        rw [List.length_drop] at hle
        by_cases h0 : P.cellsOf u = 0
        · refine ⟨.agg (cs.extract off (off + P.cellsOf u)), ?_, ?_⟩
          · unfold part
            simp only [Sem.run_bind, run_isAgg hd, Result.andThen_ok, hagg, if_true, run_sizeOf hd, Sem.run_pure]
          · rw [h0]; exact .agg _ _ (by simp; omega) (by simp) (by simp)
        · refine ⟨.agg (cs.extract off (off + P.cellsOf u)), ?_, .agg _ _ (by simp; omega) (fun i d hi => ?_) (fun i d hi => ?_)⟩
          · unfold part
            simp only [Sem.run_bind, run_isAgg hd, Result.andThen_ok, hagg, if_true, run_sizeOf hd, Sem.run_pure]
          · rw [List.getElem?_take] at hi
            split at hi
            · rw [List.getElem?_drop] at hi; exact (hv _ d hi).1
            · cases hi
          · rw [List.getElem?_take] at hi
            split at hi
            · rename_i hlt
              rw [List.getElem?_drop] at hi
              have := (hv _ d hi).2
              have hlt2 : off + i < cs.size := by rw [hsz]; exact (List.getElem?_eq_some_iff.1 hi).1
              have hge : (cs.extract off (off + P.cellsOf u)).getD i undef = cs.getD (off + i) undef := by
                simp [Array.getD_eq_getD_getElem?, Array.getElem?_extract, hlt2]
                rw [if_pos (by omega)]
                rfl
              rw [hge]; exact this
            · cases hi
      · cases ht
    · rename_i hagg
      have h0 : ds[off]? = some y := by
        rw [List.head?_eq_getElem?, List.getElem?_drop] at ht
        simpa using ht
      have hlt : off < cs.size := by rw [hsz]; exact (List.getElem?_eq_some_iff.1 h0).1
      refine ⟨cs.getD off undef, ?_, (hv off y h0).2⟩
      unfold part
      simp only [Sem.run_bind, run_isAgg hd, Result.andThen_ok, hagg, Bool.false_eq_true, if_false]
      simp [hlt]
  · cases ht

theorem vField_ok {o : Oper} {t : TypeId} {x : Operand} {i : Nat} (ho : o.op = .field t x i) (h : vField P G t x i st = some out) : OpOk P G o st out := by
  unfold vField at h
  split at h
  · rename_i cs off u hx hf
    simp only [Option.map_eq_some_iff] at h
    obtain ⟨y, hy, rfl⟩ := h
    obtain ⟨fs, f, h1, h2, rfl, rfl⟩ := fieldOf_spec hf
    refine opOk_pure fun base R μ a w hr => ?_
    obtain ⟨vs, he, hsz, hv⟩ := (hr.evalD hx).agg_inv
    obtain ⟨v, hp, hvy⟩ := run_part (P := P) hsz hv hy
    exact ⟨v, by simp [execOp, ho, he, Instr.field, run_underlying h1, h2, asAgg, hp], .d _ _ hvy, trivial⟩
  · cases h

theorem idx_spec {n : D} {m j : Nat} (h : idx n m = some j) : ∃ k i, n = .int k i ∧ 0 ≤ i ∧ i < m ∧ j = i.toNat ∧ j < m := by
  unfold idx at h
  split at h
  · rename_i k i
    split at h
    · rename_i hi
      simp at h
      exact ⟨k, i, rfl, hi.1, hi.2, h.symm, by omega⟩
    · cases h
  · cases h

theorem vIndex_ok {o : Oper} {t : TypeId} {x i : Operand} (ho : o.op = .index t x i) (h : vIndex P G t x i st = some out) : OpOk P G o st out := by
  unfold vIndex at h
  split at h
  · rename_i s n hu hx hi
    simp only [Option.bind_eq_some_iff, Option.map_eq_some_iff] at h
    obtain ⟨j, hj, b, hb, rfl⟩ := h
    obtain ⟨k, m, rfl, h0, h1, rfl, _⟩ := idx_spec hj
    refine opOk_pure fun base R μ a w hr => ⟨.int .u8 b.toNat, ?_, .d _ _ (.int _ _), trivial⟩
    have hg : (⟨s.toArray⟩ : ByteArray)[m.toNat]? = some b := by
      have hl : m.toNat < s.length := by omega
      have : (⟨s.toArray⟩ : ByteArray)[m.toNat]? = s[m.toNat]? := by
        simp only [getElem?_def, ByteArray.size, ByteArray.getElem_eq_getElem_data]
        simp
      rw [this]; exact hb
    simp [execOp, ho, hr.evalStr hx, hr.evalInt hi, Instr.index, run_underlying hu, asIntOf, h0, hg]
  · rename_i len e cs n hu hx hi
    simp only [Option.bind_eq_some_iff, Option.map_eq_some_iff] at h
    obtain ⟨j, hj, y, hy, rfl⟩ := h
    obtain ⟨k, m, rfl, h0, h1, rfl, _⟩ := idx_spec hj
    refine opOk_pure fun base R μ a w hr => ?_
    obtain ⟨vs, he, hsz, hv⟩ := (hr.evalD hx).agg_inv
    obtain ⟨v, hp, hvy⟩ := run_part (P := P) hsz hv hy
    refine ⟨v, ?_, .d _ _ hvy, trivial⟩
    have hd : ∃ d, P.underlying e = some d := by
      unfold takeD at hy
      split at hy
      · rename_i d hd; exact ⟨d, hd⟩
      · cases hy
    obtain ⟨d, hd⟩ := hd
    simp [execOp, ho, he, hr.evalInt hi, Instr.index, run_underlying hu, asIntOf, h0, h1, run_sizeOf hd, hp]
  · cases h
end
end Go.VM

set_option linter.unusedVariables false
set_option linter.unusedSimpArgs false
set_option linter.unusedSectionVars false
namespace Go.VM
open Go Go.RowKit

section
variable {P : Program} {G : GT} {st : St} {out : Out}
variable {base : Base} {R : Nat → Nat → Prop} {μ : Nat → Nat} {a : Act} {w : World}

theorem str_beq (x y : List UInt8) : ((⟨x.toArray⟩ : ByteArray) == ⟨y.toArray⟩) = (x == y) := by
  rw [beq_toListBytes, ByteArray.toList_mk, ByteArray.toList_mk]

theorem run_dbin {op : BinOp} {t : TypeId} {x y : Operand} {p q c : D} {u v : Value} (hu : V R w u p) (hv : V R w v q) (h : dbin op p q = some c) :
    ∃ r, (do eqGuard op t x y u v; binOp op t u v : Sem Value).run P w = .ok r w ∧ V R w r c := by
  unfold dbin at h
  split at h
  · rename_i k m k' n
    obtain rfl := hu.int_inv
    obtain rfl := hv.int_inv
    split at h
    · cases h
    · rename_i hk
      simp only [ne_eq, Decidable.not_not] at hk
      subst hk
      have hg : ∀ o, (eqGuard o t x y (.int k m) (.int k n)).run P w = .ok () w := fun o => by cases o <;> simp [eqGuard]
      cases op <;> simp only [Option.some.injEq, reduceCtorEq] at h
      case quo =>
        split at h
        · cases h
        · rename_i hz
          simp only [Option.some.injEq] at h; subst h
          exact ⟨_, by simp only [Sem.run_bind, hg, Result.andThen_ok]; simp [binOp, Op.intDiv, hz], .int _ _⟩
      case rem =>
        split at h
        · cases h
        · rename_i hz
          simp only [Option.some.injEq] at h; subst h
          exact ⟨_, by simp only [Sem.run_bind, hg, Result.andThen_ok]; simp [binOp, Op.intDiv, hz], .int _ _⟩
      all_goals subst h
      case add => exact ⟨_, by simp only [Sem.run_bind, hg, Result.andThen_ok]; simp [binOp, Op.intArith], .int _ _⟩
      case sub => exact ⟨_, by simp only [Sem.run_bind, hg, Result.andThen_ok]; simp [binOp, Op.intArith], .int _ _⟩
      case mul => exact ⟨_, by simp only [Sem.run_bind, hg, Result.andThen_ok]; simp [binOp, Op.intArith], .int _ _⟩
      all_goals exact ⟨_, by simp only [Sem.run_bind, hg, Result.andThen_ok]; simp only [binOp, ne_eq, not_true_eq_false, if_false, Op.intCmp, Sem.run_pure], .bool _⟩
  · rename_i m n
    obtain rfl := hu.str_inv
    obtain rfl := hv.str_inv
    have hg : ∀ o, (eqGuard o t x y (.string ⟨m.toArray⟩) (.string ⟨n.toArray⟩)).run P w = .ok () w := fun o => by cases o <;> simp [eqGuard]
    cases op <;> simp only [Option.some.injEq, reduceCtorEq] at h
    case add =>
      split at h
      · rename_i hle
        simp only [Option.some.injEq] at h; subst h
        refine ⟨.string ⟨(m ++ n).toArray⟩, ?_, .str _⟩
        have hb : (⟨m.toArray⟩ : ByteArray) ++ ⟨n.toArray⟩ = ⟨(m ++ n).toArray⟩ := by
          apply ByteArray.ext
          simp [ByteArray.data_append]
        have hs : ¬ (((⟨m.toArray⟩ : ByteArray).size + (⟨n.toArray⟩ : ByteArray).size : Nat) : Int) > IntKind.i64.max := by
          show ¬ ((m.toArray.size + n.toArray.size : Nat) : Int) > 9223372036854775807
          simp only [List.size_toArray]
          omega
        simp only [Sem.run_bind, hg, Result.andThen_ok]
        simp only [binOp, Op.stringOp, if_neg hs, Sem.run_pure, hb]
      · cases h
    all_goals subst h
    all_goals exact ⟨_, by simp only [Sem.run_bind, hg, Result.andThen_ok]; simp only [binOp, Op.stringOp, Sem.run_pure, ByteArray.toList_mk], .bool _⟩
  · cases h

theorem scalar_eq {d : TypeDesc} {t : TypeId} {p q : D} {u v : Value} {r : Bool} (n : Nat) (ht : P.underlying t = some d) (hd : scalarDesc d = true) (hu : V R w u p) (hv : V R w v q) (h : eqCell p q = some r)
    (hk : keyFits P t p = true) : (Op.equalIn (n + 1) t u v).run P w = .ok r w := by
  unfold eqCell at h
  split at h
  · rename_i k m k' n'
    obtain rfl := hu.int_inv
    obtain rfl := hv.int_inv
    split at h <;> simp at h
    rename_i hkk; subst hkk h
    unfold keyFits at hk
    rw [ht] at hk
    cases d <;> simp [fitDesc] at hk
    exact run_equalIn_int w n t k _ m n' ht
  · obtain rfl := hu.str_inv
    obtain rfl := hv.str_inv
    simp at h; subst h
    unfold keyFits at hk
    rw [ht] at hk
    cases d <;> simp [fitDesc] at hk
    rw [run_equalIn_string w n t _ _ ht, ByteArray.toList_mk, ByteArray.toList_mk]
  · obtain rfl := hu.bool_inv
    obtain rfl := hv.bool_inv
    simp at h; subst h
    unfold keyFits at hk
    rw [ht] at hk
    cases d <;> simp [fitDesc] at hk
    exact run_equalIn_bool w n t _ _ ht
  · cases h

theorem info_ok {t : TypeId} (h : (P.info? t).isSome = true) (w : World) : (sizeOf t).run P w = .ok (P.cellsOf t) w := by
  cases hi : P.info? t with
  | none => simp [hi] at h
  | some i => simp [sizeOf, typeInfo, hi, Program.cellsOf]

theorem run_mapM_places (w : World) : ∀ (fs : List Field), (∀ f ∈ fs, (P.info? f.type).isSome = true) →
    (fs.mapM (fun f => do pure (f.offset, ← sizeOf f.type)) : Sem (List (Nat × Nat))).run P w = .ok (fs.map fun f => (f.offset, P.cellsOf f.type)) w
  | [], _ => by simp
  | f :: fs, h => by
    have h1 := info_ok (h f (by simp)) w
    have h2 := run_mapM_places w fs (fun f hf => h f (by simp [hf]))
    simp only [List.mapM_cons, Sem.run_bind, h1, Result.andThen_ok, Sem.run_pure, h2, List.map_cons]

theorem zeroD_spec {t : TypeId} {z : List D} (h : zeroD P t = some z) (w : World) : ∃ v, (zeroValue t).run P w = .ok v w ∧ v.cells.size = z.length ∧ (∀ (i : Nat) (d : D), z[i]? = some d → d.one = true ∧ V R w (v.cells.getD i undef) d) := by
  unfold zeroD at h
  cases hi : P.info? t with
  | none => simp [hi] at h
  | some i =>
    cases hz : i.zero with
    | none => simp [hi, hz] at h
    | some v =>
      simp [hi, hz] at h
      obtain ⟨h1, h2⟩ := ofScalars_V (R := R) (w := w) h
      refine ⟨v, by simp [zeroValue, typeInfo, hi, hz], by simpa using h1, fun j d hj => ⟨(h2 j d hj).2, ?_⟩⟩
      have := (h2 j d hj).1
      simpa [Array.getD_eq_getD_getElem?, List.getD] using this

theorem foldl_set_get (off : Nat) : ∀ (l : List Value) (k : Nat) (cs : Array Value) (i : Nat), ((l.zipIdx k).foldl (fun cs (x : Value × Nat) => cs.setIfInBounds (off + x.2) x.1) cs)[i]? =
    if off + k ≤ i ∧ i < off + k + l.length ∧ i < cs.size then l[i - (off + k)]? else cs[i]?
  | [], k, cs, i => by simp; omega
  | v :: l, k, cs, i => by
    simp only [List.zipIdx_cons, List.foldl_cons]
    rw [foldl_set_get off l (k + 1) _ i]
    simp only [Array.size_setIfInBounds, List.length_cons]
    by_cases h1 : i = off + k
    · subst h1
      rw [if_neg (by omega)]
      by_cases h2 : off + k < cs.size
      · rw [if_pos ⟨by omega, by omega, h2⟩]; simp [h2]
      · rw [if_neg (by omega)]; simp [h2]
    · rw [Array.getElem?_setIfInBounds_ne (by omega)]
      by_cases h2 : off + (k + 1) ≤ i ∧ i < off + (k + 1) + l.length ∧ i < cs.size
      · rw [if_pos h2, if_pos ⟨by omega, by omega, h2.2.2⟩]
        have : i - (off + k) = (i - (off + (k + 1))) + 1 := by omega
        rw [this]; simp
      · rw [if_neg h2, if_neg (by omega)]

theorem fold_size (off : Nat) : ∀ (l : List (Value × Nat)) (cs : Array Value), (l.foldl (fun cs (x : Value × Nat) => cs.setIfInBounds (off + x.2) x.1) cs).size = cs.size
  | [], cs => rfl
  | _ :: l, cs => by simp only [List.foldl_cons]; rw [fold_size off l]; simp

/-- 'fill' does on values what 'fillD' does on data. -/
theorem fill_ok {t : TypeId} {fs : Array Field} (ht : P.underlying t = some (.struct fs)) {pl : Nat → Option (Nat × Nat)} (hpl : ∀ i, pl i = (fs[i]?).map fun f => (f.offset, P.cellsOf f.type)) :
    ∀ (ps : List (Nat × Value)) (qs : List (Nat × D)) (cs : Array Value) (z r : List D), ps.length = qs.length → (∀ (i : Nat) (p : Nat × Value) (q : Nat × D), ps[i]? = some p → qs[i]? = some q → p.1 = q.1 ∧ V R w p.2 q.2) →
      cs.size = z.length → (∀ (i : Nat) (d : D), z[i]? = some d → d.one = true ∧ V R w (cs.getD i undef) d) → fillD P t z qs = some r →
      ∃ cs', Instr.fill pl cs ps = some cs' ∧ cs'.size = r.length ∧ (∀ (i : Nat) (d : D), r[i]? = some d → d.one = true ∧ V R w (cs'.getD i undef) d)
  | [], [], cs, z, r, _, _, hsz, hz, h => by simp [fillD] at h; subst h; exact ⟨cs, rfl, hsz, hz⟩
  | [], _ :: _, _, _, _, hl, _, _, _, _ => by simp at hl
  | _ :: _, [], _, _, _, hl, _, _, _, _ => by simp at hl
  | (i, v) :: ps, (j, d) :: qs, cs, z, r, hl, hp, hsz, hz, h => by
    obtain ⟨hij, hvd⟩ := hp 0 _ _ rfl rfl
    change i = j at hij
    subst hij
    change V R w v d at hvd
    simp only [fillD] at h
    cases hf : fieldOf P t i with
    | none => simp [hf] at h
    | some p =>
      obtain ⟨off, u⟩ := p
      obtain ⟨fs', f, h1, h2, rfl, rfl⟩ := fieldOf_spec hf
      rw [ht] at h1; cases h1
      simp only [hf] at h
      split at h
      · rename_i hc
        obtain ⟨hcs, hcv⟩ := hvd.cells
        have hfill : Instr.fill pl cs ((i, v) :: ps) = Instr.fill pl (v.cells.zipIdx.foldl (fun cs (c, j) => cs.setIfInBounds (f.offset + j) c) cs) ps := by
          have : (decide (v.cells.size ≠ P.cellsOf f.type) || decide (f.offset + v.cells.size > cs.size)) = false := by
            rw [hcs, hsz]; simp; omega
          simp only [Instr.fill, hpl, h2, Option.map_some, this, Bool.false_eq_true, if_false]
        rw [hfill]
        have hconv : (v.cells.zipIdx.foldl (fun cs (c, j) => cs.setIfInBounds (f.offset + j) c) cs) = (v.cells.toList.zipIdx 0).foldl (fun cs (x : Value × Nat) => cs.setIfInBounds (f.offset + x.2) x.1) cs := by
          rw [← Array.foldl_toList, Array.toList_zipIdx]
        rw [hconv]
        refine fill_ok ht hpl ps qs _ (overwrite z f.offset d.cells) r (by simpa using hl) (fun k p q hp' hq' => hp (k + 1) p q (by simpa using hp') (by simpa using hq')) ?_ ?_ h
        · rw [fold_size, hsz]; simp only [overwrite, List.length_append, List.length_take, List.length_drop]; omega
        · intro k c hk
          rw [Array.getD_eq_getD_getElem?, foldl_set_get]
          simp only [Nat.add_zero, Array.length_toList]
          simp only [overwrite] at hk
          by_cases hlo : k < f.offset
          · rw [List.append_assoc, List.getElem?_append_left (by simp; omega), List.getElem?_take, if_pos hlo] at hk
            rw [if_neg (by omega)]
            have := hz k c hk
            rwa [Array.getD_eq_getD_getElem?] at this
          · by_cases hhi : k < f.offset + d.cells.length
            · rw [List.append_assoc, List.getElem?_append_right (by simp; omega), List.getElem?_append_left (by simp; omega)] at hk
              have hmin : min f.offset z.length = f.offset := by omega
              simp only [List.length_take, hmin] at hk
              rw [if_pos (by rw [hcs, hsz]; omega)]
              have := hcv _ c hk
              simpa [Array.getD_eq_getD_getElem?] using this
            · rw [List.getElem?_append_right (by simp; omega)] at hk
              simp only [List.length_append, List.length_take, List.getElem?_drop] at hk
              have hmin : min f.offset z.length = f.offset := by omega
              rw [hmin, show f.offset + d.cells.length + (k - (f.offset + d.cells.length)) = k by omega] at hk
              rw [if_neg (by rw [hcs]; omega)]
              have := hz k c hk
              rwa [Array.getD_eq_getD_getElem?] at this
      · cases h

/-- The cells of a value. -/
def CellsV (R : Nat → Nat → Prop) (μ : Nat → Nat) (w : World) (v : Value) (cs : List DV) : Prop := v.cells.size = cs.length ∧ ∀ (i : Nat) (c : DV), cs[i]? = some c → c.cell = true ∧ TV R μ w (v.cells.getD i undef) c ∧ (v.cells.getD i undef).oneCell' = true
/-- 'fill' does on values what 'fillV' does on what they hold. -/
theorem fill_okV {t : TypeId} {fs : Array Field} (ht : P.underlying t = some (.struct fs)) {pl : Nat → Option (Nat × Nat)} (hpl : ∀ i, pl i = (fs[i]?).map fun f => (f.offset, P.cellsOf f.type)) :
    ∀ (ps : List (Nat × Value)) (qs : List (Nat × List DV)) (cs : Array Value) (z r : List DV), ps.length = qs.length → (∀ (i : Nat) (p : Nat × Value) (q : Nat × List DV), ps[i]? = some p → qs[i]? = some q → p.1 = q.1 ∧ CellsV R μ w p.2 q.2) →
      cs.size = z.length → (∀ (i : Nat) (d : DV), z[i]? = some d → d.cell = true ∧ TV R μ w (cs.getD i undef) d ∧ (cs.getD i undef).oneCell' = true) → fillV P t z qs = some r →
      ∃ cs', Instr.fill pl cs ps = some cs' ∧ cs'.size = r.length ∧ (∀ (i : Nat) (d : DV), r[i]? = some d → d.cell = true ∧ TV R μ w (cs'.getD i undef) d ∧ (cs'.getD i undef).oneCell' = true)
  | [], [], cs, z, r, _, _, hsz, hz, h => by simp [fillV] at h; subst h; exact ⟨cs, rfl, hsz, hz⟩
  | [], _ :: _, _, _, _, hl, _, _, _, _ => by simp at hl
  | _ :: _, [], _, _, _, hl, _, _, _, _ => by simp at hl
  | (i, v) :: ps, (j, d) :: qs, cs, z, r, hl, hp, hsz, hz, h => by
    obtain ⟨hij, hvd⟩ := hp 0 _ _ rfl rfl
    change i = j at hij
    subst hij
    change CellsV R μ w v d at hvd
    simp only [fillV] at h
    cases hf : fieldOf P t i with
    | none => simp [hf] at h
    | some p =>
      obtain ⟨off, u⟩ := p
      obtain ⟨fs', f, h1, h2, rfl, rfl⟩ := fieldOf_spec hf
      rw [ht] at h1; cases h1
      simp only [hf] at h
      split at h
      · rename_i hc
        obtain ⟨hcs, hcv⟩ := hvd
        have hfill : Instr.fill pl cs ((i, v) :: ps) = Instr.fill pl (v.cells.zipIdx.foldl (fun cs (c, j) => cs.setIfInBounds (f.offset + j) c) cs) ps := by
          have : (decide (v.cells.size ≠ P.cellsOf f.type) || decide (f.offset + v.cells.size > cs.size)) = false := by
            rw [hcs, hsz]; simp; omega
          simp only [Instr.fill, hpl, h2, Option.map_some, this, Bool.false_eq_true, if_false]
        rw [hfill]
        have hconv : (v.cells.zipIdx.foldl (fun cs (c, j) => cs.setIfInBounds (f.offset + j) c) cs) = (v.cells.toList.zipIdx 0).foldl (fun cs (x : Value × Nat) => cs.setIfInBounds (f.offset + x.2) x.1) cs := by
          rw [← Array.foldl_toList, Array.toList_zipIdx]
        rw [hconv]
        refine fill_okV ht hpl ps qs _ (overwrite z f.offset d) r (by simpa using hl) (fun k p q hp' hq' => hp (k + 1) p q (by simpa using hp') (by simpa using hq')) ?_ ?_ h
        · rw [fold_size, hsz]; simp only [overwrite, List.length_append, List.length_take, List.length_drop]; omega
        · intro k c hk
          rw [Array.getD_eq_getD_getElem?, foldl_set_get]
          simp only [Nat.add_zero, Array.length_toList]
          simp only [overwrite] at hk
          by_cases hlo : k < f.offset
          · rw [List.append_assoc, List.getElem?_append_left (by simp; omega), List.getElem?_take, if_pos hlo] at hk
            rw [if_neg (by omega)]
            have := hz k c hk
            rwa [Array.getD_eq_getD_getElem?] at this
          · by_cases hhi : k < f.offset + d.length
            · rw [List.append_assoc, List.getElem?_append_right (by simp; omega), List.getElem?_append_left (by simp; omega)] at hk
              have hmin : min f.offset z.length = f.offset := by omega
              simp only [List.length_take, hmin] at hk
              rw [if_pos (by rw [hcs, hsz]; omega)]
              have := hcv _ c hk
              simpa [Array.getD_eq_getD_getElem?] using this
            · rw [List.getElem?_append_right (by simp; omega)] at hk
              simp only [List.length_append, List.length_take, List.getElem?_drop] at hk
              have hmin : min f.offset z.length = f.offset := by omega
              rw [hmin, show f.offset + d.length + (k - (f.offset + d.length)) = k by omega] at hk
              rw [if_neg (by rw [hcs]; omega)]
              have := hz k c hk
              rwa [Array.getD_eq_getD_getElem?] at this
      · cases h

theorem partsD_spec (hr : Rel P G base R μ st a w) : ∀ {l : List (Nat × Operand)} {qs : List (Nat × D)}, partsD G st l = some qs →
    l.length = qs.length ∧ ∀ (i : Nat) (p : Nat × Value) (q : Nat × D), (l.map fun x => (x.1, a.eval x.2))[i]? = some p → qs[i]? = some q → p.1 = q.1 ∧ V R w p.2 q.2
  | [], qs, h => by simp [partsD] at h; subst h; simp
  | (j, x) :: l, qs, h => by
    simp only [partsD] at h
    split at h
    · rename_i y ds hy hds
      simp at h; subst h
      obtain ⟨h1, h2⟩ := partsD_spec hr hds
      refine ⟨by simp [h1], fun i p q hp hq => ?_⟩
      cases i with
      | zero => simp at hp hq; subst hp hq; exact ⟨rfl, hr.evalD hy⟩
      | succ i => simp at hp hq; exact h2 i p q (by simpa using hp) hq
    · cases h

theorem partsV_spec (hr : Rel P G base R μ st a w) : ∀ {l : List (Nat × Operand)} {qs : List (Nat × List DV)}, partsV G st l = some qs →
    l.length = qs.length ∧ ∀ (i : Nat) (p : Nat × Value) (q : Nat × List DV), (l.map fun x => (x.1, a.eval x.2))[i]? = some p → qs[i]? = some q → p.1 = q.1 ∧ CellsV R μ w p.2 q.2
  | [], qs, h => by simp [partsV] at h; subst h; simp
  | (j, x) :: l, qs, h => by
    simp only [partsV] at h
    split at h
    · rename_i y ds hy hds
      simp at h; subst h
      obtain ⟨h1, h2⟩ := partsV_spec hr hds
      refine ⟨by simp [h1], fun i p q hp hq => ?_⟩
      cases i with
      | zero => simp at hp hq; subst hp hq; exact ⟨rfl, vcells_ok (hr.eval x) hy⟩
      | succ i => simp at hp hq; exact h2 i p q (by simpa using hp) hq
    · cases h
theorem zeroO_spec {t : TypeId} {z : List DV} (h : zeroO P t = some z) (w : World) : ∃ v, (zeroValue t).run P w = .ok v w ∧ v.cells.size = z.length ∧ (∀ (i : Nat) (d : DV), z[i]? = some d → d.cell = true ∧ TV R μ w (v.cells.getD i undef) d ∧ (v.cells.getD i undef).oneCell' = true) := by
  unfold zeroO at h
  cases hi : P.info? t with
  | none => simp [hi] at h
  | some i =>
    cases hz : i.zero with
    | none => simp [hi, hz] at h
    | some v =>
      simp only [hi, hz, Option.bind_some] at h
      split at h
      · rename_i hall
        cases h
        refine ⟨v, by simp [zeroValue, typeInfo, hi, hz], by simp, fun j d hj => ?_⟩
        rw [List.getElem?_map] at hj
        obtain ⟨y, hy, rfl⟩ := Option.map_eq_some_iff.1 hj
        have he : v.cells.getD j undef = y := by
          have : v.cells[j]? = some y := by simpa using hy
          simp [Array.getD_eq_getD_getElem?, this]
        have h1 := List.all_eq_true.1 hall y (List.mem_of_getElem? hy)
        rw [he]
        unfold cellOf
        split
        · rename_i x hx; exact ⟨(ofScalar_V (R := R) (w := w) hx).2, .d _ _ (ofScalar_V hx).1, h1⟩
        · exact ⟨rfl, .undef _, h1⟩
      · cases h
theorem vBuildC_ok {o : Oper} {t : TypeId} {parts : Array (Nat × Operand)} (ho : o.op = .build t parts) (hs : isStruct P t = true) (h : vBuildC P G t parts st = some out) : OpOk P G o st out := by
  unfold vBuildC at h
  split at h
  · rename_i z ps hz hps
    simp only [Option.map_eq_some_iff] at h
    obtain ⟨r, hr', rfl⟩ := h
    unfold isStruct at hs
    split at hs
    · rename_i fs hfs
      refine opOk_pure fun base R μ a w hr => ?_
      obtain ⟨zv, hz1, hz2, hz3⟩ := zeroO_spec (R := R) (μ := μ) hz w
      obtain ⟨hl, hp⟩ := partsV_spec hr hps
      have hm := run_mapM_places w fs.toList (fun f hf => by simpa using List.all_eq_true.1 hs f hf)
      obtain ⟨cs', hc1, hc2, hc3⟩ := fill_okV (R := R) (μ := μ) (w := w) hfs (pl := fun i => ((fs.toList.map fun f => (f.offset, P.cellsOf f.type)).toArray)[i]?) (fun i => by simp)
        (parts.toList.map fun x => (x.1, a.eval x.2)) ps zv.cells z r (by simpa using hl) hp hz2 hz3 hr'
      refine ⟨.agg cs', ?_, .ag _ _ hc2 (fun i hi => (hc3 i _ (List.getElem?_eq_getElem hi)).2.2) (fun i d hi => (hc3 i d hi).1) (fun i d hi => (hc3 i d hi).2.1), trivial⟩
      have hmm : (fs.mapM (fun f => do pure (f.offset, ← sizeOf f.type)) : Sem (Array (Nat × Nat))).run P w = .ok (fs.toList.map fun f => (f.offset, P.cellsOf f.type)).toArray w := by
        rw [Array.mapM_eq_mapM_toList]
        simp only [Sem.run_map, hm, Result.andThen_ok]
      have hpl : (parts.map fun (x : Nat × Operand) => (x.1, a.eval x.2)).toList = parts.toList.map fun x => (x.1, a.eval x.2) := by simp
      simp only [execOp, ho, Instr.build, Sem.run_bind, hz1, Result.andThen_ok, run_underlying hfs, hmm, Sem.run_pure]
      rw [hpl, hc1]
      rfl
    · cases hs
  · cases h
theorem vBuild_ok {o : Oper} {t : TypeId} {parts : Array (Nat × Operand)} (ho : o.op = .build t parts) (h : vBuild P G t parts st = some out) : OpOk P G o st out := by
  unfold vBuild at h
  split at h
  · rename_i hs
    have hs' := hs
    split at h
    · rename_i z ps hz hps
      simp only [Option.map_eq_some_iff] at h
      obtain ⟨r, hr', rfl⟩ := h
      unfold isStruct at hs
      split at hs
      · rename_i fs hfs
        refine opOk_pure fun base R μ a w hr => ?_
        obtain ⟨zv, hz1, hz2, hz3⟩ := zeroD_spec (R := R) hz w
        obtain ⟨hl, hp⟩ := partsD_spec hr hps
        have hm := run_mapM_places w fs.toList (fun f hf => by simpa using List.all_eq_true.1 hs f hf)
        obtain ⟨cs', hc1, hc2, hc3⟩ := fill_ok (R := R) (w := w) hfs (pl := fun i => ((fs.toList.map fun f => (f.offset, P.cellsOf f.type)).toArray)[i]?) (fun i => by simp)
          (parts.toList.map fun x => (x.1, a.eval x.2)) ps zv.cells z r (by simpa using hl) hp hz2 hz3 hr'
        refine ⟨.agg cs', ?_, .d _ _ (.agg _ _ hc2 (fun i d hi => (hc3 i d hi).1) fun i d hi => (hc3 i d hi).2), trivial⟩
        have hmm : (fs.mapM (fun f => do pure (f.offset, ← sizeOf f.type)) : Sem (Array (Nat × Nat))).run P w = .ok (fs.toList.map fun f => (f.offset, P.cellsOf f.type)).toArray w := by
          rw [Array.mapM_eq_mapM_toList]
          simp only [Sem.run_map, hm, Result.andThen_ok]
        have hpl : (parts.map fun (x : Nat × Operand) => (x.1, a.eval x.2)).toList = parts.toList.map fun x => (x.1, a.eval x.2) := by simp
        simp only [execOp, ho, Instr.build, Sem.run_bind, hz1, Result.andThen_ok, run_underlying hfs, hmm, Sem.run_pure]
        rw [hpl, hc1]
        rfl
      · cases hs
    · exact vBuildC_ok ho hs' h
  · cases h

theorem idxInt (hr : Rel P G base R μ st a w) {i : Operand} {n : D} {m j : Nat} (hi : st.eval G i = .d n) (h : idx n m = some j) : ∃ k, a.eval i = .int k j ∧ j < m := by
  obtain ⟨k, q, rfl, h0, h1, rfl, h2⟩ := idx_spec h
  exact ⟨k, by rw [hr.evalInt hi]; congr 1; omega, h2⟩

/-- A slice with an element. -/
theorem V.sl_inv {v : Value} {es : List (List D)} (h : V R w v (.sl es)) : ∃ ao cap, v = .slice ao es.length cap ∧ es.length ≤ cap ∧ (es ≠ [] → ∃ b o size, ao = some ⟨b, o, none⟩ ∧ 0 < size ∧ (∀ e ∈ es, e.length = size) ∧
    ∀ (i : Nat) (e : List D), es[i]? = some e → Run R w b (o + i * size) e) := by
  cases h with
  | emp ao cap => exact ⟨ao, cap, rfl, Nat.zero_le _, fun h => absurd rfl h⟩
  | sl b o n cap size es f h1 h2 h3 h4 h5 h6 h7 =>
    subst h1
    refine ⟨_, cap, rfl, h2, fun _ => ⟨b, o, size, rfl, h3, h4, fun i e hi j d hj => ?_⟩⟩
    have hil : i < es.length := (List.getElem?_eq_some_iff.1 hi).1
    have hjl : j < size := by rw [← h4 e (List.mem_of_getElem? hi)]; exact (List.getElem?_eq_some_iff.1 hj).1
    obtain ⟨q1, q2⟩ := h5 i j hil hjl
    exact ⟨h6 i j e d hi hj, q1, f i j, q2, h7 i j e d hi hj⟩

theorem info_of_cells {t : TypeId} (h : P.cellsOf t ≠ 0) : (P.info? t).isSome = true := by
  cases hi : P.info? t with
  | none => simp [Program.cellsOf, hi] at h
  | some i => rfl

theorem vIndexAddr_ok {o : Oper} {t : TypeId} {x i : Operand} (ho : o.op = .indexAddr t x i) (h : vIndexAddr P G t x i st = some out) : OpOk P G o st out := by
  unfold vIndexAddr at h
  split at h
  · rename_i e es n hu hx hi
    simp only [Option.bind_eq_some_iff] at h
    obtain ⟨j, hj, cs, hcs, h⟩ := h
    split at h <;> simp at h
    rename_i hlen
    subst h
    refine opOk_pure fun base R μ a w hr => ?_
    obtain ⟨k, hk, hjl⟩ := idxInt hr hi hj
    obtain ⟨ao, cap, hv, hcap, hne⟩ := (hr.evalD hx).sl_inv
    obtain ⟨b, off, size, rfl, hs0, hs1, hrun⟩ := hne (by rintro rfl; simp at hcs)
    have hsz : size = P.cellsOf e := by rw [← hlen, hs1 cs (List.mem_of_getElem? hcs)]
    have hso := info_ok (info_of_cells (P := P) (t := e) (by omega)) w
    refine ⟨.pointer (some ⟨b, off + j * size, none⟩), ?_, .ep _ _ _ (hrun j cs hcs), trivial⟩
    simp [execOp, ho, hv, hk, Instr.indexAt, run_underlying hu, asIntOf, hjl, hso, add_none, hsz]
  · rename_i len e k off n hu hx hi
    split at h
    · cases h
    · rename_i hne
      simp only [Option.map_eq_some_iff] at h
      obtain ⟨j, hj, rfl⟩ := h
      refine opOk_pure fun base R μ a w hr => ?_
      obtain ⟨q, hq, hjl⟩ := idxInt hr hi hj
      exact ⟨.pointer (some ⟨μ k, off + j * P.cellsOf e, none⟩), by simp [execOp, ho, hr.evalPtr hx, hq, Instr.indexAt, run_underlying hu, asIntOf, Instr.sureAddr, hjl, info_ok (info_of_cells hne) w, add_none], .ptr _ _, trivial⟩
  · rename_i len e cs n hu hx hi
    split at h
    · cases h
    · rename_i hne
      simp only [Option.map_eq_some_iff] at h
      obtain ⟨j, hj, rfl⟩ := h
      refine opOk_pure fun base R μ a w hr => ?_
      obtain ⟨q, hq, hjl⟩ := idxInt hr hi hj
      obtain ⟨b, off, he, hrun⟩ := (hr.evalTV hx).ep_inv
      exact ⟨.pointer (some ⟨b, off + j * P.cellsOf e, none⟩), by simp [execOp, ho, he, hq, Instr.indexAt, run_underlying hu, asIntOf, Instr.sureAddr, hjl, info_ok (info_of_cells hne) w, add_none], .ep _ _ _ (hrun.drop _), trivial⟩
  · cases h

theorem run_fieldPlace (b o : Nat) (f : Field) {i : TypeInfo} (hi : P.info? f.type = some i) (h : P.cellsOf f.type ≠ 0) : (fieldPlace ⟨b, o, none⟩ f).run P w = .ok ⟨b, o + f.offset, none⟩ w := by
  have : ¬ i.size = 0 := by simpa [Program.cellsOf, hi] using h
  simp [fieldPlace, sizeOf, typeInfo, hi, this, add_none]

theorem vFieldAddr_ok {o : Oper} {t : TypeId} {x : Operand} {i : Nat} (ho : o.op = .fieldAddr t x i) (h : vFieldAddr P G t x i st = some out) : OpOk P G o st out := by
  unfold vFieldAddr at h
  split at h
  · rename_i off u hf
    obtain ⟨fs, f, h1, h2, rfl, rfl⟩ := fieldOf_spec hf
    split at h
    · cases h
    · rename_i hne
      have hi : ∃ i, P.info? f.type = some i := by
        cases hi : P.info? f.type with
        | none => simp [Program.cellsOf, hi] at hne
        | some i => exact ⟨i, rfl⟩
      obtain ⟨ti, hti⟩ := hi
      split at h <;> simp at h <;> subst h
      · rename_i k off hx
        exact opOk_pure fun base R μ a w hr => ⟨.pointer (some ⟨μ k, off + f.offset, none⟩), by simp [execOp, ho, hr.evalPtr hx, Instr.fieldAt, run_underlying h1, h2, Instr.sureAddr, run_fieldPlace (w := w) (μ k) off f hti hne], .ptr _ _, trivial⟩
      · rename_i cs hx
        refine opOk_pure fun base R μ a w hr => ?_
        obtain ⟨b, off, he, hrun⟩ := (hr.evalTV hx).ep_inv
        exact ⟨.pointer (some ⟨b, off + f.offset, none⟩), by simp [execOp, ho, he, Instr.fieldAt, run_underlying h1, h2, Instr.sureAddr, run_fieldPlace (w := w) b off f hti hne], .ep _ _ _ (hrun.drop _), trivial⟩
  · cases h
end
end Go.VM

set_option linter.unusedVariables false
set_option linter.unusedSimpArgs false
set_option linter.unusedSectionVars false
namespace Go.VM
open Go Go.RowKit

section
variable {P : Program} {G : GT} {st : St} {out : Out}
variable {base : Base} {R : Nat → Nat → Prop} {μ : Nat → Nat} {a : Act} {w : World}

/-- '==' of two structs of scalar cells. -/
theorem eqFields_ok (n : Nat) {xs ys : Array Value} {ps qs : List D} (hxs : ∀ (i : Nat) (d : D), ps[i]? = some d → V R w (xs.getD i undef) d) (hys : ∀ (i : Nat) (d : D), qs[i]? = some d → V R w (ys.getD i undef) d)
    (hx : xs.size = ps.length) (hy : ys.size = qs.length) :
    ∀ (fs : List Field) (k : Nat) (r : Bool), (∀ (i : Nat) (f : Field), fs[i]? = some f → f.name ≠ "_" ∧ f.offset = k + i ∧ ∃ d, P.underlying f.type = some d ∧ scalarDesc d = true ∧ ∀ p, ps[k + i]? = some p → keyFits P f.type p = true) →
      k + fs.length = ps.length → eqCells (ps.drop k) (qs.drop k) = some r → (Op.eqFields (n + 1) xs ys fs).run P w = .ok r w
  | [], k, r, _, hl, h => by
    rw [List.drop_eq_nil_of_le (by simp at hl; omega)] at h
    cases hq : qs.drop k with
    | nil => rw [hq] at h; simp [eqCells] at h; subst h; simp [Op.eqFields]
    | cons c cs => rw [hq] at h; simp [eqCells] at h
  | f :: fs, k, r, hf, hl, h => by
    obtain ⟨hn, ho, d, hd, hs, hk⟩ := hf 0 f rfl
    simp only [Nat.add_zero] at ho hk
    have hkl : k < ps.length := by simp at hl; omega
    rw [List.drop_eq_getElem_cons hkl] at h
    cases hq : qs.drop k with
    | nil => rw [hq] at h; simp [eqCells] at h
    | cons c cs =>
      have hkq : k < qs.length := by
        have := congrArg List.length hq
        simp at this; omega
      rw [List.drop_eq_getElem_cons hkq] at h
      simp only [eqCells] at h
      split at h
      · rename_i x y hx1 hy1
        simp at h; subst h
        have v1 := hxs k ps[k] (by simp [hkl])
        have v2 := hys k qs[k] (by simp [hkq])
        have he := scalar_eq n hd hs v1 v2 hx1 (hk ps[k] (by simp [hkl]))
        have hp : ∀ (zs : Array Value), k < zs.size → (part f.type zs k).run P w = .ok (zs.getD k undef) w := fun zs hz => by
          unfold part
          simp only [Sem.run_bind, run_isAgg hd, Result.andThen_ok]
          have : descAgg d = false := by cases d <;> simp_all [scalarDesc, descAgg]
          simp [this, hz]
        have ih := eqFields_ok n hxs hys hx hy fs (k + 1) y (fun i f' hi => by
          have := hf (i + 1) f' (by simpa using hi)
          rwa [show k + (i + 1) = k + 1 + i by omega] at this) (by simp at hl; omega) hy1
        simp only [Op.eqFields, hn, ne_eq, not_false_eq_true, if_true, Sem.run_bind, ho, hp xs (by rw [hx]; exact hkl), hp ys (by rw [hy]; exact hkq), Result.andThen_ok, he]
        cases x
        · simp
        · simp [ih]
      · cases h

theorem flatList_spec : ∀ (k : Nat) (fs : List Field) (ds : List TypeDesc) (ps : List D), flatList P k fs = some ds → fitDescs ds ps = true →
    fs.length = ps.length ∧ ∀ (i : Nat) (f : Field), fs[i]? = some f → f.name ≠ "_" ∧ f.offset = k + i ∧ ∃ d, P.underlying f.type = some d ∧ scalarDesc d = true ∧ ∀ p, ps[i]? = some p → keyFits P f.type p = true
  | k, [], ds, ps, h, hf => by
    simp [flatList] at h; subst h
    cases ps <;> simp [fitDescs] at hf
    simp
  | k, f :: fs, ds, ps, h, hf => by
    simp only [flatList] at h
    split at h
    · rename_i d ds' hd hds
      split at h <;> simp at h
      rename_i hc
      subst h
      cases ps with
      | nil => simp [fitDescs] at hf
      | cons p ps =>
        simp only [fitDescs, Bool.and_eq_true] at hf
        obtain ⟨h1, h2⟩ := flatList_spec (k + 1) fs ds' ps hds hf.2
        refine ⟨by simp [h1], fun i g hi => ?_⟩
        cases i with
        | zero =>
          simp at hi; subst hi
          exact ⟨hc.1, by omega, d, hd, hc.2.2, fun p' hp' => by simp at hp'; subst hp'; simp [keyFits, hd, hf.1]⟩
        | succ i =>
          simp at hi
          obtain ⟨q1, q2, q3⟩ := h2 i g hi
          exact ⟨q1, by omega, by simpa using q3⟩
    · cases h

theorem vBin_ok {o : Oper} {op : BinOp} {t u : TypeId} {x y : Operand} (ho : o.op = .binOp op t x y u) (h : vBin P G op t x y st = some out) : OpOk P G o st out := by
  unfold vBin at h
  split at h
  · rename_i p q hx hy
    simp only [Option.map_eq_some_iff] at h
    obtain ⟨c, hc, rfl⟩ := h
    refine opOk_pure fun base R μ a w hr => ?_
    have hv : ∃ r, (do eqGuard op t x y (a.eval x) (a.eval y); binOp op t (a.eval x) (a.eval y) : Sem Value).run P w = .ok r w ∧ V R w r c := by
      have vx := hr.evalD hx
      have vy := hr.evalD hy
      unfold dbinT at hc
      split at hc
      · rename_i b1 b2
        obtain he1 := vx.bool_inv
        obtain he2 := vy.bool_inv
        rw [he1, he2]
        split at hc <;> simp at hc <;> subst hc
        · rename_i hu
          exact ⟨.bool (b1 == b2), by simp [eqGuard, binOp, run_equal_bool w t b1 b2 hu], .bool _⟩
        · rename_i hu
          exact ⟨.bool !(b1 == b2), by simp [eqGuard, binOp, run_equal_bool w t b1 b2 hu], .bool _⟩
      · rename_i ps qs
        split at hc
        · rename_i ds hfl
          obtain ⟨xs, he1, hs1, hv1'⟩ := vx.agg_inv
          obtain ⟨ys, he2, hs2, hv2'⟩ := vy.agg_inv
          have hv1 := fun i d hi => (hv1' i d hi).2
          have hv2 := fun i d hi => (hv2' i d hi).2
          rw [he1, he2]
          unfold flatDescs at hfl
          split at hfl
          · rename_i fs hfs
            have hfl : (P.eqGuardType P.depth t = false ∧ P.stoodInHeld t = false) ∧ flatList P 0 fs.toList = some ds := by
              split at hfl
              · rename_i h; exact ⟨h, hfl⟩
              · cases hfl
            obtain ⟨hg1, hg2⟩ := hfl.1
            by_cases hfit : fitDescs ds ps = true
            case neg => rw [if_neg hfit] at hc; cases hc
            rw [if_pos hfit] at hc
            have hfo : P.fieldsOf t = fs := by simp [Program.fieldsOf, hfs]
            have hrun : ∀ r, eqCells ps qs = some r → (Op.equalIn 10000 t (.agg xs) (.agg ys)).run P w = .ok r w := fun r hr' => by
              rw [run_equalIn_struct w 9999 t xs ys (by rw [hfo]; exact hfs) hg2, hfo]
              obtain ⟨hl, hf'⟩ := flatList_spec 0 fs.toList ds ps hfl.2 hfit
              exact eqFields_ok 9998 hv1 hv2 hs1 hs2 fs.toList 0 r (fun i f hi => by simpa using hf' i f hi) (by simpa using hl) (by simpa using hr')
            have hgd : (eqGuard op t x y (.agg xs) (.agg ys)).run P w = .ok () w := run_eqGuard_agg w op t x y xs ys hg1
            split at hc <;> simp at hc <;> subst hc
            · rename_i r hr'
              exact ⟨.bool r, by simp only [Sem.run_bind, hgd, Result.andThen_ok, run_eql_struct, hrun r hr'], .bool _⟩
            · rename_i r hr'
              exact ⟨.bool !r, by simp only [Sem.run_bind, hgd, Result.andThen_ok, run_neq_struct, hrun r hr'], .bool _⟩
          · cases hfl
        · cases hc
      · exact run_dbin vx vy hc
    obtain ⟨r, h1, h2⟩ := hv
    refine ⟨r, ?_, .d _ _ h2, trivial⟩
    simp only [execOp, ho]
    rw [Sem.run_bind, h1]
    rfl
  · cases h

theorem run_equal_nil (w : World) {t e : TypeId} (hu : P.underlying t = some (.slice e)) (ao : Option Addr) (n cap : Nat) : (Op.equal t (.slice ao n cap) (.slice none 0 0)).run P w = .ok ao.isNone w := by
  unfold Op.equal
  unfold Op.maxDepth
  unfold Op.equalIn
  simp only [Sem.run_bind, run_underlying hu, Result.andThen_ok]
  cases ao <;> rfl
theorem V.sl_ao {v : Value} {es : List (List D)} (h : V R w v (.sl es)) : ∃ ao n cap, v = .slice ao n cap ∧ (es.length ≠ 0 → ao.isNone = false) := by
  cases h with
  | emp ao cap => exact ⟨ao, 0, cap, rfl, fun h => absurd rfl h⟩
  | sl b o n cap size es f => exact ⟨_, _, _, rfl, fun _ => rfl⟩
theorem vNilTest_ok {o : Oper} {op : BinOp} {t u : TypeId} {x y : Operand} (ho : o.op = .binOp op t x y u) (hy : isNilC y = true) (h : vNilTest P G op t x st = some out) : OpOk P G o st out := by
  have hy' : y = .const (.slice none 0 0) := by
    unfold isNilC at hy
    split at hy
    · rfl
    · cases hy
  subst hy'
  have hrun : ∀ (a : Act) (w : World) (e : TypeId) (ao : Option Addr) (n cap : Nat), P.underlying t = some (.slice e) → a.eval x = .slice ao n cap →
      (op = .eql → (execOp a.eval o).run P w = .ok (.value (.bool ao.isNone)) w) ∧ (op = .neq → (execOp a.eval o).run P w = .ok (.value (.bool !ao.isNone)) w) := fun a w e ao n cap hu hx => by
    have hc : a.eval (.const (.slice none 0 0)) = .slice none 0 0 := rfl
    constructor
    · rintro rfl
      simp only [execOp, ho, hx, hc]
      simp [eqGuard, binOp, run_equal_nil w hu]
    · rintro rfl
      simp only [execOp, ho, hx, hc]
      simp [eqGuard, binOp, run_equal_nil w hu]
  unfold vNilTest at h
  split at h
  · rename_i e es hu hx
    simp only [Option.some.injEq] at h; subst h
    refine opOk_pure fun base R μ a w hr => ?_
    obtain ⟨ao, n, cap, hv, hne⟩ := (hr.evalD hx).sl_ao
    refine ⟨_, (hrun a w e ao n cap hu hv).1 rfl, ?_, trivial⟩
    by_cases h0 : es.length = 0
    · rw [if_pos h0]; exact .anyb _
    · rw [if_neg h0, hne h0]; exact .d _ _ (.bool _)
  · rename_i e es hu hx
    simp only [Option.some.injEq] at h; subst h
    refine opOk_pure fun base R μ a w hr => ?_
    obtain ⟨ao, n, cap, hv, hne⟩ := (hr.evalD hx).sl_ao
    refine ⟨_, (hrun a w e ao n cap hu hv).2 rfl, ?_, trivial⟩
    by_cases h0 : es.length = 0
    · rw [if_pos h0]; exact .anyb _
    · rw [if_neg h0, hne h0]; exact .d _ _ (.bool _)
  · rename_i e hu hx
    simp only [Option.some.injEq] at h; subst h
    refine opOk_pure fun base R μ a w hr => ?_
    obtain ⟨ao, hv⟩ := (hr.evalD hx).nils_inv
    exact ⟨_, (hrun a w e ao 0 0 hu hv).1 rfl, .anyb _, trivial⟩
  · rename_i e hu hx
    simp only [Option.some.injEq] at h; subst h
    refine opOk_pure fun base R μ a w hr => ?_
    obtain ⟨ao, hv⟩ := (hr.evalD hx).nils_inv
    exact ⟨_, (hrun a w e ao 0 0 hu hv).2 rfl, .anyb _, trivial⟩
  · cases h
theorem vBinN_ok {o : Oper} {op : BinOp} {t u : TypeId} {x y : Operand} (ho : o.op = .binOp op t x y u) (h : vBinN P G op t x y st = some out) : OpOk P G o st out := by
  unfold vBinN at h
  split at h
  · exact vNilTest_ok ho ‹_› h
  · exact vBin_ok ho h

theorem dconv_ok {src dst : TypeId} {p c : D} {v : Value} (hv : V R w v p) (h : dconv P src dst p = some c) : ∃ r, (convert src dst v).run P w = .ok r w ∧ V R w r c := by
  unfold dconv at h
  split at h
  · rename_i d k k' n hs hd
    simp only [Option.some.injEq] at h; subst h
    obtain rfl := hv.int_inv
    exact ⟨_, by simp [convert, run_underlying hs, run_underlying hd, Conv.intToInt], .int _ _⟩
  · rename_i d s hs hd
    simp only [Option.some.injEq] at h; subst h
    obtain rfl := hv.str_inv
    exact ⟨_, by simp [convert, run_underlying hs, run_underlying hd], .str _⟩
  · rename_i e es hs hd
    split at h
    · rename_i hu
      simp only [Option.map_eq_some_iff] at h
      obtain ⟨bs, hbs, rfl⟩ := h
      unfold isU8 at hu
      split at hu <;> simp at hu
      rename_i he
      obtain ⟨ao, cap, rfl, hcap, hne⟩ := hv.sl_inv
      refine ⟨.string ⟨bs.toArray⟩, ?_, .str _⟩
      rw [run_convert_bytes_string w src dst e _ _ _ hs he hd]
      have hspec : ∀ (es : List (List D)) (bs : List UInt8), bytesOfEs es = some bs → ∃ ns : List Int, es = ns.map (fun n => [D.int .u8 n]) ∧ bs = ns.map fun n => UInt8.ofNat n.toNat := by
        intro es
        induction es with
        | nil => intro bs h; simp [bytesOfEs] at h; subst h; exact ⟨[], rfl, rfl⟩
        | cons c es ih =>
          intro bs h
          unfold bytesOfEs at h
          split at h
          · rename_i heq; cases heq
          · rename_i n l heq
            simp only [Option.map_eq_some_iff] at h
            obtain ⟨bs', hb', rfl⟩ := h
            cases heq
            obtain ⟨ns, h1, h2⟩ := ih bs' hb'
            exact ⟨n :: ns, by simp [h1], by simp [h2]⟩
          · cases h
      obtain ⟨ns, he1, he2⟩ := hspec es bs hbs
      cases ao with
      | none =>
        have : es = [] := by
          cases es with
          | nil => rfl
          | cons c l =>
            obtain ⟨b, o, size, h, _⟩ := hne (by simp)
            cases h
        subst this
        simp [bytesOfEs] at hbs; subst hbs
        simp [Conv.bytesToString]
        rfl
      | some ad =>
        have hl : (loadCells ad es.length).run P w = .ok (ns.map (Value.int .u8)).toArray w := by
          by_cases hnil : es = []
          · subst hnil
            have : ns = [] := by simpa using he1.symm
            subst this
            simp [loadCells, loadCellsFrom]
          · obtain ⟨b, o, size, ha, hs0, hs1, hrun⟩ := hne hnil
            cases ha
            have hn : ∀ j, j < ns.length → w.cell? ((⟨b, o, none⟩ : Addr).add j) = some (.int .u8 (ns.getD j 0)) := fun j hj => by
              have hej : es[j]? = some [D.int .u8 (ns.getD j 0)] := by rw [he1]; simp [hj]
              have hsz : size = 1 := by rw [← hs1 _ (List.mem_of_getElem? hej)]; rfl
              obtain ⟨_, _, v, hc, hv⟩ := hrun j _ hej 0 _ rfl
              rw [add_none]
              rw [hsz, Nat.mul_one, Nat.add_zero] at hc
              rw [hc, hv.int_inv]
            have hlen : es.length = (ns.map (Value.int .u8)).length := by rw [he1]; simp
            rw [hlen]
            exact run_loadCells_list (P := P) w _ (ns.map (Value.int .u8)) (fun j v hj => by
              simp only [List.getElem?_map, Option.map_eq_some_iff] at hj
              obtain ⟨n, hn', rfl⟩ := hj
              have hjl := (List.getElem?_eq_some_iff.1 hn').1
              rw [hn j hjl]
              simp [List.getD, hn'])
        rw [run_bytesToString w ad es.length cap ns hl]
        have hfold : ∀ (ns : List Int) (s : List UInt8), ns.foldl (fun (r : ByteArray) n => r.push (UInt8.ofNat n.toNat)) ⟨s.toArray⟩ = ⟨(s ++ ns.map fun n => UInt8.ofNat n.toNat).toArray⟩ := by
          intro ns
          induction ns with
          | nil => intro s; simp
          | cons n ns ih =>
            intro s
            have hp : (⟨s.toArray⟩ : ByteArray).push (UInt8.ofNat n.toNat) = ⟨(s ++ [UInt8.ofNat n.toNat]).toArray⟩ := by
              apply ByteArray.ext; simp [ByteArray.push]
            simp only [List.foldl_cons, hp, ih]
            simp
        have := hfold ns []
        simp only [List.nil_append] at this
        rw [he2, ← this]
        rfl
    · cases h
  · rename_i e hs hd
    split at h
    · rename_i hu
      simp only [Option.some.injEq] at h; subst h
      unfold isU8 at hu
      split at hu <;> simp at hu
      rename_i he
      obtain ⟨ao, rfl⟩ := hv.nils_inv
      refine ⟨.string ⟨#[]⟩, ?_, .str []⟩
      rw [run_convert_bytes_string w src dst e _ _ _ hs he hd]
      cases ao with
      | none => simp [Conv.bytesToString]; rfl
      | some ad =>
        rw [run_bytesToString w ad 0 0 [] (by simp [loadCells, loadCellsFrom])]
        rfl
    · cases h
  · cases h

theorem vConv_ok {o : Oper} {src dst : TypeId} {x : Operand} (ho : o.op = .convert src dst x) (h : vConv P G src dst x st = some out) : OpOk P G o st out := by
  unfold vConv at h
  split at h
  · rename_i p hx
    simp only [Option.map_eq_some_iff] at h
    obtain ⟨c, hc, rfl⟩ := h
    refine opOk_pure fun base R μ a w hr => ?_
    obtain ⟨r, h1, h2⟩ := dconv_ok (hr.evalD hx) hc
    exact ⟨r, by simp [execOp, ho, h1], .d _ _ h2, trivial⟩
  · cases h

theorem bytes_size (s : List UInt8) : (⟨s.toArray⟩ : ByteArray).size = s.length := by simp [ByteArray.size]

theorem run_getMap {r : Nat} {es : Array MapEntry} {clock : Nat} (hb : w.heap[r]? = some (.map es clock)) : (getObj r).run P w = .ok (.map es clock) w := by
  simp [getObj, Sem.run, hb]

theorem vLen_ok {o : Oper} {x : Operand} {t : TypeId} (ho : o.op = .call { callee := .builtin .len, args := #[x], argTypes := #[t] }) (h : vLen P G t x st = some out) : OpOk P G o st out := by
  unfold vLen at h
  split at h
  · rename_i s hu hx
    simp only [Option.some.injEq] at h; subst h
    exact opOk_pure fun base R μ a w hr => ⟨.int .i64 s.length, by simp [execOp, ho, resolve, invoke, builtin, Builtin.len_, run_underlying hu, hr.evalStr hx, goInt, bytes_size], .d _ _ (.int _ _), trivial⟩
  · rename_i e es hu hx
    simp only [Option.some.injEq] at h; subst h
    refine opOk_pure fun base R μ a w hr => ⟨.int .i64 es.length, ?_, .d _ _ (.int _ _), trivial⟩
    obtain ⟨ao, cap, he, _⟩ := (hr.evalD hx).sl_inv
    simp [execOp, ho, resolve, invoke, builtin, Builtin.len_, run_underlying hu, he, goInt]
  · rename_i e hu hx
    simp only [Option.some.injEq] at h; subst h
    refine opOk_pure fun base R μ a w hr => ⟨.int .i64 0, ?_, .d _ _ (.int _ _), trivial⟩
    obtain ⟨ao, he⟩ := (hr.evalD hx).nils_inv
    simp [execOp, ho, resolve, invoke, builtin, Builtin.len_, run_underlying hu, he, goInt]
  · rename_i kt et k hu hx
    split at h
    · rename_i es hk
      simp only [Option.some.injEq] at h; subst h
      refine opOk_pure fun base R μ a w hr => ⟨.int .i64 es.length, ?_, .d _ _ (.int _ _), trivial⟩
      obtain ⟨_, _, ents, clock, hh, hsz, _⟩ := hr.objs k _ hk
      simp [execOp, ho, resolve, invoke, builtin, Builtin.len_, run_underlying hu, hr.evalMp hx, goInt, run_getMap (P := P) hh, hsz]
    · cases h
  · cases h

/-- A bound of a slice expression: not given, or an int within it. -/
def OB (x : Option Value) (dflt n j : Nat) : Prop := (x = none ∧ j = dflt) ∨ ∃ k, x = some (.int k (j : Int)) ∧ j ≤ n

theorem optBound_spec (hr : Rel P G base R μ st a w) {x : Option Operand} {dflt n j : Nat} (h : optBound G st x dflt n = some j) : OB (x.map a.eval) dflt n j := by
  unfold optBound at h
  split at h
  · simp at h; exact .inl ⟨rfl, h.symm⟩
  · rename_i y
    split at h
    · rename_i z hz
      unfold bound at h
      split at h
      · rename_i k i
        split at h <;> simp at h
        rename_i hb
        subst h
        refine .inr ⟨k, ?_, by omega⟩
        simp only [Option.map_some, hr.evalInt hz]
        congr 2
        omega
      · cases h
    · cases h

theorem run_sliceBound (k : IntKind) (j n : Nat) (h : j ≤ n) (c : BoundsCode) : (Instr.sliceBound (.int k (j : Int)) n c).run P w = .ok j w := by
  simp [Instr.sliceBound, asIntOf, h]

theorem run_bounds (isSlice : Bool) (len cap l h : Nat) (lo hi : Option Value) (hlen : len ≤ cap) (hh : OB hi len len h) (hl : OB lo 0 h l) : (Instr.sliceBounds isSlice len cap lo hi none).run P w = .ok (l, h, cap) w ∧ l ≤ h ∧ h ≤ len := by
  have h1 : h ≤ len := by rcases hh with ⟨_, rfl⟩ | ⟨k, _, h⟩ <;> omega
  have h2 : l ≤ h := by rcases hl with ⟨_, rfl⟩ | ⟨k, _, h⟩ <;> omega
  refine ⟨?_, h2, h1⟩
  rcases hh with ⟨rfl, rfl⟩ | ⟨k, rfl, hk⟩
  · rcases hl with ⟨rfl, rfl⟩ | ⟨k', rfl, hk'⟩
    · simp [Instr.sliceBounds]
    · simp [Instr.sliceBounds, run_sliceBound (P := P) (w := w) k' l h hk']
  · rcases hl with ⟨rfl, rfl⟩ | ⟨k', rfl, hk'⟩
    · simp [Instr.sliceBounds, run_sliceBound (P := P) (w := w) k h cap (by omega)]
    · simp [Instr.sliceBounds, run_sliceBound (P := P) (w := w) k h cap (by omega), run_sliceBound (P := P) (w := w) k' l h hk']

theorem V.sub {ao : Option Addr} {es : List (List D)} {cap : Nat} (hv : V R w (.slice ao es.length cap) (.sl es)) (l h size : Nat) (hlh : l ≤ h) (hhl : h ≤ es.length) (hcap : es.length ≤ cap)
    (hsz : ∀ e ∈ es, e.length = size) : V R w (.slice (if cap = l then ao else ao.map (·.add (l * size))) (h - l) (cap - l)) (.sl ((es.take h).drop l)) := by
  have hlen : ((es.take h).drop l).length = h - l := by simp; omega
  by_cases hz : h - l = 0
  · rw [hz]
    have : (es.take h).drop l = [] := List.eq_nil_of_length_eq_zero (by rw [hlen, hz])
    rw [this]
    exact .emp _ _
  · obtain ⟨ao', cap', he, _, hne⟩ := hv.sl_inv
    cases he
    obtain ⟨b, o, size', rfl, hs0, hs1, hrun⟩ := hne (by rintro rfl; simp at hhl; omega)
    have hsize : size' = size := by
      have h0l : 0 < es.length := by omega
      have hm : es[0]? = some es[0] := by simp
      have h1 := hs1 es[0] (List.mem_of_getElem? hm)
      have h2 := hsz es[0] (List.mem_of_getElem? hm)
      omega
    subst hsize
    rw [if_neg (by omega)]
    simp only [Option.map_some, add_none]
    have hget : ∀ (i : Nat) (e : List D), ((es.take h).drop l)[i]? = some e → es[l + i]? = some e := fun i e hi => by
      rw [List.getElem?_drop, List.getElem?_take] at hi
      split at hi
      · exact hi
      · cases hi
    have hcell : ∀ (i j : Nat), i < h - l → j < size' → R b (o + l * size' + i * size' + j) ∧ ∃ v d, w.cell? ⟨b, o + l * size' + i * size' + j, none⟩ = some v ∧ ((es.take h).drop l)[i]?.bind (·[j]?) = some d ∧ d.one = true ∧ V R w v d := fun i j hi hj => by
      have hil : l + i < es.length := by omega
      have hei : es[l + i]? = some es[l + i] := by simp [hil]
      have hjl : j < (es[l + i]).length := by rw [hs1 _ (List.mem_of_getElem? hei)]; exact hj
      obtain ⟨h1, h2, v, h3, h4⟩ := hrun (l + i) es[l + i] hei j (es[l + i])[j] (by simp [hjl])
      have hadd : o + (l + i) * size' + j = o + l * size' + i * size' + j := by rw [Nat.add_mul]; omega
      rw [hadd] at h2 h3
      refine ⟨h2, v, (es[l + i])[j], h3, ?_, h1, h4⟩
      rw [List.getElem?_drop, List.getElem?_take, if_pos (by omega), hei]
      simp [hjl]
    refine .sl b (o + l * size') (h - l) (cap - l) size' _ (fun i j => (w.cell? ⟨b, o + l * size' + i * size' + j, none⟩).getD undef) hlen.symm (by omega) hs0 (fun e he => ?_) (fun i j hi hj => ?_) (fun i j e d he hd => ?_) (fun i j e d he hd => ?_)
    · exact hsz e (List.mem_of_mem_take (List.mem_of_mem_drop he))
    · obtain ⟨h1, v, d, h2, _⟩ := hcell i j hi hj
      exact ⟨h1, by rw [h2]; rfl⟩
    · exact (hrun _ e (hget i e he) j d hd).1
    · have hil : i < h - l := by rw [← hlen]; exact (List.getElem?_eq_some_iff.1 he).1
      have hjl : j < size' := by rw [← hsz e (List.mem_of_mem_take (List.mem_of_mem_drop (List.mem_of_getElem? he)))]; exact (List.getElem?_eq_some_iff.1 hd).1
      obtain ⟨h1, v, d', h2, h3, h4, h5⟩ := hcell i j hil hjl
      rw [he] at h3
      simp only [Option.bind_some] at h3
      rw [hd] at h3
      cases h3
      rw [h2]
      exact h5

theorem str_extract (s : List UInt8) (l h : Nat) : (⟨s.toArray⟩ : ByteArray).extract l h = ⟨((s.take h).drop l).toArray⟩ := by
  rw [ByteArray.extract_mk]
  congr 2
  rw [List.drop_take]

end
end Go.VM

set_option linter.unusedVariables false
set_option linter.unusedSimpArgs false
set_option linter.unusedSectionVars false
namespace Go.VM
open Go Go.RowKit

section
variable {P : Program} {G : GT} {st : St} {out : Out}
variable {base : Base} {R : Nat → Nat → Prop} {μ : Nat → Nat} {a : Act} {w : World}

theorem run_sliceAt_sl {t e : TypeId} (hu : P.underlying t = some (.slice e)) (ao : Option Addr) (len cap : Nat) (lo hi mx : Option Value) :
    (Instr.sliceAt t (.slice ao len cap) lo hi mx).run P w = ((Instr.sliceBounds true len cap lo hi mx).run P w).andThen fun b w' => ((sizeOf e).run P w').andThen fun s w'' => .ok (.slice (if b.2.2 = b.1 then ao else ao.map (·.add (b.1 * s))) (b.2.1 - b.1) (b.2.2 - b.1)) w'' := by
  simp only [Instr.sliceAt, Instr.slice, Sem.run_bind, run_underlying hu, Result.andThen_ok, Sem.run_pure]

theorem zero_bounds (hr : Rel P G base R μ st a w) (len cap : Nat) {lo hi : Option Operand} {m : Operand} (h1 : lo.isNone = true) (h2 : optBound G st hi 1 0 = some 0) (h3 : optBound G st (some m) 1 0 = some 0) :
    (Instr.sliceBounds true len cap (lo.map a.eval) (hi.map a.eval) ((some m).map a.eval)).run P w = .ok (0, 0, 0) w := by
  have hh := optBound_spec hr h2
  have hm := optBound_spec hr h3
  have hlo : lo = none := by cases lo <;> simp_all
  subst hlo
  rcases hh with ⟨_, h⟩ | ⟨k, hk, _⟩
  · cases h
  · rcases hm with ⟨h, _⟩ | ⟨k', hk', _⟩
    · cases h
    · rw [hk, hk']
      simp [Instr.sliceBounds, Instr.sliceBound, asIntOf]

theorem vSlice_ok {o : Oper} {t : TypeId} {x : Operand} {lo hi mx : Option Operand} (ho : o.op = .slice t x lo hi mx) (h : vSlice P G t x lo hi mx st = some out) : OpOk P G o st out := by
  unfold vSlice at h
  split at h
  · rename_i s hu hx
    simp only [Option.bind_eq_some_iff, Option.map_eq_some_iff] at h
    obtain ⟨hh, h1, l, h2, rfl⟩ := h
    refine opOk_pure fun base R μ a w hr => ?_
    have hb := run_bounds (P := P) (w := w) false s.length s.length l hh _ _ (Nat.le_refl _) (optBound_spec hr h1) (optBound_spec hr h2)
    refine ⟨.string ⟨((s.take hh).drop l).toArray⟩, ?_, .d _ _ (.str _), trivial⟩
    simp [execOp, ho, hr.evalStr hx, run_sliceAt_string (P := P) w t _ _ _ _ hu, Instr.slice, run_underlying hu, bytes_size, hb.1, str_extract]
  · rename_i e es hu hx
    split at h
    · rename_i hc
      simp only [Option.bind_eq_some_iff, Option.map_eq_some_iff] at h
      obtain ⟨hh, h1, l, h2, rfl⟩ := h
      refine opOk_pure fun base R μ a w hr => ?_
      have hv := hr.evalD hx
      obtain ⟨ao, cap, he, hcap, _⟩ := hv.sl_inv
      obtain ⟨hb, hlh, hhl⟩ := run_bounds (P := P) (w := w) true es.length cap l hh _ _ hcap (optBound_spec hr h1) (optBound_spec hr h2)
      rw [he] at hv
      refine ⟨_, ?_, .d _ _ (hv.sub l hh (P.cellsOf e) hlh hhl hcap (fun c hc' => by simpa using List.all_eq_true.1 hc.2 c hc')), trivial⟩
      simp only [execOp, ho, Sem.run_bind, he, run_sliceAt_sl hu, Option.map_none, hb, Result.andThen_ok, info_ok (info_of_cells hc.1) w, Sem.run_pure]
    · cases h
  · rename_i e hu hx
    split at h
    · rename_i hc
      simp only [Option.bind_eq_some_iff, Option.map_eq_some_iff] at h
      obtain ⟨hh, h1, l, h2, rfl⟩ := h
      refine opOk_pure fun base R μ a w hr => ?_
      obtain ⟨ao, he⟩ := (hr.evalD hx).nils_inv
      obtain ⟨hb, hlh, hhl⟩ := run_bounds (P := P) (w := w) true 0 0 l hh _ _ (Nat.le_refl _) (optBound_spec hr h1) (optBound_spec hr h2)
      have h0 : hh = 0 := by omega
      have h0' : l = 0 := by omega
      subst h0 h0'
      refine ⟨.slice ao 0 0, ?_, .d _ _ (.nils _), trivial⟩
      simp [execOp, ho, he, run_sliceAt_sl hu, hb, info_ok (info_of_cells hc) w]
    · cases h
  · rename_i e es m hu hx
    split at h
    · rename_i hc
      simp only [Option.some.injEq] at h; subst h
      refine opOk_pure fun base R μ a w hr => ?_
      obtain ⟨ao, cap, he, _⟩ := (hr.evalD hx).sl_inv
      have hb := zero_bounds hr es.length cap hc.2.1 hc.2.2.1 hc.2.2.2
      refine ⟨.slice ao 0 0, ?_, .d _ _ (.nils _), trivial⟩
      simp only [execOp, ho, Sem.run_bind, he, run_sliceAt_sl hu, hb, Result.andThen_ok, info_ok (info_of_cells hc.1) w, Sem.run_pure, if_true, Nat.sub_self]
    · cases h
  · rename_i e m hu hx
    split at h
    · rename_i hc
      simp only [Option.some.injEq] at h; subst h
      refine opOk_pure fun base R μ a w hr => ?_
      obtain ⟨ao, he⟩ := (hr.evalD hx).nils_inv
      have hb := zero_bounds hr 0 0 hc.2.1 hc.2.2.1 hc.2.2.2
      refine ⟨.slice ao 0 0, ?_, .d _ _ (.nils _), trivial⟩
      simp only [execOp, ho, Sem.run_bind, he, run_sliceAt_sl hu, hb, Result.andThen_ok, info_ok (info_of_cells hc.1) w, Sem.run_pure, if_true, Nat.sub_self]
    · cases h
  · cases h

/-! ### Maps -/

theorem sameNow_ok {d : TypeDesc} {p q : D} {u v : Value} {r : Bool} (hu : V R w u p) (hv : V R w v q) (hf : fitDesc d p = true) (h : eqCell p q = some r) : Instr.sameNow d u v = some r := by
  unfold eqCell at h
  split at h
  · obtain rfl := hu.int_inv
    obtain rfl := hv.int_inv
    split at h <;> simp at h
    rename_i hkk; subst hkk h
    cases d <;> simp [fitDesc] at hf
    simp [Instr.sameNow]
  · obtain rfl := hu.str_inv
    obtain rfl := hv.str_inv
    simp at h; subst h
    cases d <;> simp [fitDesc] at hf
    simp [Instr.sameNow, str_beq]
  · obtain rfl := hu.bool_inv
    obtain rfl := hv.bool_inv
    simp at h; subst h
    cases d <;> simp [fitDesc] at hf
    simp [Instr.sameNow]
  · cases h

/-- The entries of a map. -/
def Ents (R : Nat → Nat → Prop) (w : World) (l : List MapEntry) (es : List (D × D)) : Prop := l.length = es.length ∧ ∀ (i : Nat) (e : MapEntry) (k v : D), l[i]? = some e → es[i]? = some (k, v) → V R w e.key k ∧ V R w e.val v

theorem Ents.of_obj {ents : Array MapEntry} {es : List (D × D)} (h1 : ents.size = es.length) (h2 : ∀ (i : Nat) (k v : D), es[i]? = some (k, v) → V R w ((ents.getD i default).key) k ∧ V R w ((ents.getD i default).val) v) : Ents R w ents.toList es :=
  ⟨by simpa using h1, fun i e k v he hk => by
    have := h2 i k v hk
    have hg : ents.getD i default = e := by
      have : ents[i]? = some e := by simpa using he
      simp [Array.getD_eq_getD_getElem?, this]
    rwa [hg] at this⟩
theorem Ents.tail {e : MapEntry} {l : List MapEntry} {x : D × D} {es : List (D × D)} (h : Ents R w (e :: l) (x :: es)) : Ents R w l es :=
  ⟨by simpa using h.1, fun i e' k v he hk => h.2 (i + 1) e' k v (by simpa using he) (by simpa using hk)⟩

theorem findNow_ok {d : TypeDesc} {k : D} {u : Value} (hu : V R w u k) (hf : fitDesc d k = true) : ∀ (l : List MapEntry) (es : List (D × D)) (n : Nat) (r : Option D), Ents R w l es → findKeyD k es = some r →
    (r = none ∧ Instr.findNow d u l n = some none) ∨ ∃ (i : Nat) (e : MapEntry) (k' v : D), r = some v ∧ Instr.findNow d u l n = some (some (n + i, e.val)) ∧ l[i]? = some e ∧ es[i]? = some (k', v)
  | [], [], n, r, _, h => by simp [findKeyD] at h; subst h; exact .inl ⟨rfl, rfl⟩
  | [], _ :: _, _, _, he, _ => by simp [Ents] at he
  | _ :: _, [], _, _, he, _ => by simp [Ents] at he
  | e :: l, (k', v') :: es, n, r, he, h => by
    have h0 := he.2 0 e k' v' rfl rfl
    simp only [findKeyD] at h
    split at h
    · rename_i hq
      simp at h; subst h
      exact .inr ⟨0, e, k', v', rfl, by simp [Instr.findNow, sameNow_ok hu h0.1 hf hq], rfl, rfl⟩
    · rename_i hq
      rcases findNow_ok hu hf l es (n + 1) r he.tail h with ⟨h1, h2⟩ | ⟨i, e', k1, v1, h1, h2, h3, h4⟩
      · exact .inl ⟨h1, by simp [Instr.findNow, sameNow_ok hu h0.1 hf hq, h2]⟩
      · exact .inr ⟨i + 1, e', k1, v1, h1, by simp [Instr.findNow, sameNow_ok hu h0.1 hf hq, h2]; omega, by simpa using h3, by simpa using h4⟩
    · cases h

theorem mapOf_spec {t k e : TypeId} (h : mapOf P t = some (k, e)) : P.underlying t = some (.map k e) ∧ ∃ d, P.underlying k = some d ∧ scalarDesc d = true := by
  unfold mapOf at h
  split at h
  · rename_i k' e' hu
    split at h
    · rename_i d hd
      split at h <;> simp at h
      rename_i hs
      obtain ⟨rfl, rfl⟩ := h
      exact ⟨hu, d, hd, hs⟩
    · cases h
  · cases h

theorem run_checkKey_scalar {k : TypeId} {d : TypeDesc} (hd : P.underlying k = some d) (hs : scalarDesc d = true) (em : Bool) (n : Nat) (v : Value) : (Instr.checkKey em (n + 1) k v).run P w = .ok () w := by
  unfold Instr.checkKey
  simp only [Sem.run_bind, run_underlying hd, Result.andThen_ok]
  cases d <;> simp [scalarDesc] at hs <;> rfl

theorem keyFits_spec {k : TypeId} {d : TypeDesc} {x : D} (hd : P.underlying k = some d) (h : keyFits P k x = true) : fitDesc d x = true := by
  simpa [keyFits, hd] using h

theorem run_findKey_ok {k : TypeId} {d : TypeDesc} (hd : P.underlying k = some d) {u : Value} {l : List MapEntry} {r : Option (Nat × Value)} (h : Instr.findNow d u l 0 = some r) : (Instr.findKey k u l).run P w = .ok r w := by
  simp [Instr.findKey, run_underlying hd, h]

theorem vLookup_ok {o : Oper} {t : TypeId} {m k : Operand} {ok : Bool} (ho : o.op = .lookup t m k ok) (h : vLookup P G t m k ok st = some out) : OpOk P G o st out := by
  unfold vLookup at h
  split at h
  · rename_i kt e key kk hm hx hk
    split at h
    · rename_i es z hg hz hf
      simp only [Option.map_eq_some_iff] at h
      obtain ⟨r, hfind, rfl⟩ := h
      obtain ⟨hu, d, hd, hs⟩ := mapOf_spec hm
      refine opOk_pure fun base R μ a w hr => ?_
      obtain ⟨_, _, ents, clock, hh, hsz, hev⟩ := hr.objs key _ hg
      have hE := Ents.of_obj hsz hev
      have hzv : ∃ zv, (zeroValue e).run P w = .ok zv w ∧ V R w zv z := by
        unfold zeroValD at hz
        cases hi : P.info? e with
        | none => simp [hi] at hz
        | some i =>
          cases hz0 : i.zero with
          | none => simp [hi, hz0] at hz
          | some zv =>
            simp [hi, hz0] at hz
            have ht := ofConst_TV (R := R) (μ := μ) (w := w) zv
            unfold isD at hz
            split at hz <;> simp at hz
            rename_i q hq
            subst hz
            rw [hq] at ht
            exact ⟨zv, by simp [zeroValue, typeInfo, hi, hz0], ht.dinv⟩
      obtain ⟨zv, hz1, hz2⟩ := hzv
      have fin : ∀ (v : Value) (b : Bool), V R w v (r.getD z) → r.isSome = b → ∃ x, (if ok then Value.tuple #[v, .bool b] else v) = x ∧ TV R μ w x (if ok then .tup [r.getD z, .bool r.isSome] else .d (r.getD z)) := fun v b hv hb => by
        refine ⟨_, rfl, ?_⟩
        cases ok
        · exact .d _ _ hv
        · refine .tup _ _ rfl (fun i d hi => ?_)
          match i, hi with
          | 0, hi => simp at hi; subst hi; exact hv
          | 1, hi => simp at hi; subst hi; subst hb; exact .bool _
          | n + 2, hi => simp at hi
      rcases findNow_ok (hr.evalD hk) (keyFits_spec hd hf) ents.toList es 0 r hE hfind with ⟨rfl, h1⟩ | ⟨i, en, k', v, rfl, h1, h2, h3⟩
      · obtain ⟨x, hx1, hx2⟩ := fin zv false hz2 rfl
        refine ⟨x, ?_, hx2, trivial⟩
        simp [execOp, ho, Instr.lookup, run_underlying hu, hr.evalMp hx, run_getMap (P := P) hh, run_checkKey_scalar (P := P) (w := w) hd hs, run_findKey_ok (P := P) (w := w) hd h1, hz1, ← hx1]
      · obtain ⟨x, hx1, hx2⟩ := fin en.val true (hE.2 i en k' v h2 h3).2 rfl
        refine ⟨x, ?_, hx2, trivial⟩
        simp [execOp, ho, Instr.lookup, run_underlying hu, hr.evalMp hx, run_getMap (P := P) hh, run_checkKey_scalar (P := P) (w := w) hd hs, run_findKey_ok (P := P) (w := w) hd h1, ← hx1]
    · cases h
  · cases h
end
end Go.VM

set_option linter.unusedVariables false
set_option linter.unusedSimpArgs false
set_option linter.unusedSectionVars false
namespace Go.VM
open Go Go.RowKit

section
variable {P : Program} {G : GT} {st : St} {out : Out}
variable {base : Base} {R : Nat → Nat → Prop} {μ : Nat → Nat} {a : Act} {w w' : World}

/-- The block of one of our objects is written, and nothing else. -/
theorem Rel.stepObj (h : Rel P G base R μ st a w) {k : Nat} {o : AObj} (hk : getKey k st.H = some o) (hos : w'.os = w.os) (htp : w'.tape = w.tape) (hout : w'.output = w.output) (hsz : w'.heap.size = w.heap.size)
    (hb : ∀ j, j ≠ μ k → w'.heap[j]? = w.heap[j]?) : Step base R w R w' := by
  obtain ⟨h1, h2, _⟩ := h.objs k o hk
  exact ⟨⟨hos, htp, hout, by omega, fun j hj => hb j fun e => hj (e ▸ h1)⟩, fun _ _ h => h, fun _ _ h h' => absurd h h', fun b off hr => World.cell?_of_block (hb b (by rintro rfl; exact h2 off hr))⟩

theorem Rel.setObj (h : Rel P G base R μ st a w) {k : Nat} {o o' : AObj} (hk : getKey k st.H = some o) (hos : w'.os = w.os) (htp : w'.tape = w.tape) (hout : w'.output = w.output) (hsz : w'.heap.size = w.heap.size)
    (hb : ∀ j, j ≠ μ k → w'.heap[j]? = w.heap[j]?) (hob : ObjRel R μ w' (μ k) o') {own' : List (TypeId × List Loc)} (hloc : ∀ c ∈ own', ∀ k off, Loc.c k off ∈ c.2 → ∃ o, getKey k st.H = some o)
    (hown : ∃ vs, Owns P base R μ { st with H := setKey k o' st.H, own := own' } a w' vs) :
    Rel P G base R μ { st with H := setKey k o' st.H, own := own' } a w' ∧ Step base R w R w' := by
  have hs := h.stepObj hk hos htp hout hsz hb
  have hex : ∀ k' o1, getKey k' (setKey k o' st.H) = some o1 → ∃ o2, getKey k' st.H = some o2 := fun k' o1 h1 => by
    rw [getKey_setKey] at h1
    by_cases hkk : k = k'
    · subst hkk; exact ⟨o, hk⟩
    · rw [if_neg hkk] at h1; exact ⟨o1, h1⟩
  refine ⟨⟨h.defers, h.size, fun i v d hv hd => (h.tmps i v d hv hd).of_step hs, fun k' o1 h1 => ?_, fun k1 k2 o1 o2 h1 h2 he => ?_, fun c hc k' off hl => ?_, hown, h.glob.of_step hs, fun b off hr => by rw [hsz]; exact h.rset b off hr, by rw [hsz]; exact h.base, h.pass⟩, hs⟩
  · simp only at h1
    rw [getKey_setKey] at h1
    by_cases hkk : k = k'
    · subst hkk
      rw [if_pos rfl] at h1; cases h1
      obtain ⟨q1, q2, _⟩ := h.objs k o hk
      exact ⟨q1, q2, hob⟩
    · rw [if_neg hkk] at h1
      obtain ⟨q1, q2, q3⟩ := h.objs k' o1 h1
      exact ⟨q1, q2, q3.of_step hs (hb _ fun he => hkk (h.inj k k' o o1 hk h1 he.symm))⟩
  · obtain ⟨o3, h3⟩ := hex k1 o1 h1
    obtain ⟨o4, h4⟩ := hex k2 o2 h2
    exact h.inj k1 k2 o3 o4 h3 h4 he
  · obtain ⟨o1, h1⟩ := hloc c hc k' off hl
    simp only
    rw [getKey_setKey]
    split
    · exact ⟨_, rfl⟩
    · exact ⟨o1, h1⟩

/-- An object that holds no cells is written: the own classes stay. -/
theorem Owns.noCells (h : Rel P G base R μ st a w) {k : Nat} {o o' : AObj} (hk : getKey k st.H = some o) (hb : ∀ j, j ≠ μ k → w'.heap[j]? = w.heap[j]?) (hno : ∀ off, w'.cell? ⟨μ k, off, none⟩ = none) :
    ∃ vs, Owns P base R μ { st with H := setKey k o' st.H } a w' vs := by
  obtain ⟨vs, hl, h1, hap⟩ := h.own
  refine ⟨vs, hl, fun i c v hc hv => ?_, hap⟩
  have ho := h1 i c v hc hv
  have hkeys : ∀ k' o1, getKey k' (setKey k o' st.H) = some o1 → ∃ o2, getKey k' st.H = some o2 := fun k' o1 h1 => by
    rw [getKey_setKey] at h1
    by_cases hkk : k = k'
    · subst hkk; exact ⟨o, hk⟩
    · rw [if_neg hkk] at h1; exact ⟨o1, h1⟩
  refine ⟨fun l hl u hu => ?_, ho.own.keep1 (fun g hg => hb g fun he => ho.keys k o hk (by rw [hg, he])) (fun _ _ _ h => h), fun k' o1 h1 => by obtain ⟨o2, h2⟩ := hkeys k' o1 h1; exact ho.keys k' o2 h2⟩
  cases l with
  | t i => exact ho.locs _ hl u hu
  | c k' off =>
    by_cases hkk : k' = k
    · subst hkk; simp only [locVal] at hu; rw [hno] at hu; cases hu
    · obtain ⟨o1, h1'⟩ := h.locs c (List.mem_of_getElem? hc) k' off hl
      refine ho.locs _ hl u ?_
      rw [← hu]
      exact (World.cell?_of_block (hb _ fun he => hkk (h.inj k' k o1 o h1' hk he))).symm

theorem overwrite_get {α : Type} (z : List α) (off : Nat) (vs : List α) (h : off + vs.length ≤ z.length) (k : Nat) : (overwrite z off vs)[k]? = if k < off then z[k]? else if k < off + vs.length then vs[k - off]? else z[k]? := by
  have hmin : min off z.length = off := by omega
  simp only [overwrite, List.append_assoc]
  by_cases h1 : k < off
  · rw [if_pos h1, List.getElem?_append_left (by simp; omega), List.getElem?_take, if_pos h1]
  · rw [if_neg h1, List.getElem?_append_right (by simp; omega)]
    simp only [List.length_take, hmin]
    by_cases h2 : k < off + vs.length
    · rw [if_pos h2, List.getElem?_append_left (by omega)]
    · rw [if_neg h2, List.getElem?_append_right (by omega), List.getElem?_drop]
      congr 1; omega
theorem overwrite_len {α : Type} (z : List α) (off : Nat) (vs : List α) (h : off + vs.length ≤ z.length) : (overwrite z off vs).length = z.length := by
  simp only [overwrite, List.length_append, List.length_take, List.length_drop]; omega
theorem splice_get (z : List Value) (off : Nat) (vs : List Value) (h : off + vs.length ≤ z.length) (k : Nat) : (z.take off ++ vs ++ z.drop (off + vs.length))[k]? = if k < off then z[k]? else if k < off + vs.length then vs[k - off]? else z[k]? := by
  have hmin : min off z.length = off := by omega
  simp only [List.append_assoc]
  by_cases h1 : k < off
  · rw [if_pos h1, List.getElem?_append_left (by simp; omega), List.getElem?_take, if_pos h1]
  · rw [if_neg h1, List.getElem?_append_right (by simp; omega)]
    simp only [List.length_take, hmin]
    by_cases h2 : k < off + vs.length
    · rw [if_pos h2, List.getElem?_append_left (by omega)]
    · rw [if_neg h2, List.getElem?_append_right (by omega), List.getElem?_drop]
      congr 1; omega

theorem setRow_os (w : World) (g : Nat) (c : Array Value) : (w.setRow g c).os = w.os ∧ (w.setRow g c).tape = w.tape ∧ (w.setRow g c).output = w.output ∧ (w.setRow g c).heap.size = w.heap.size := ⟨rfl, rfl, rfl, by simp [World.setRow]⟩

theorem one_cell {v : Value} {d : DV} {ys : List DV} (h : TV R μ w v d) (hc : vcells d = some ys) (h1 : d.cell = true) : ys.length = 1 ∧ v.cells = #[v] := by
  cases h with
  | d v x h =>
    simp only [vcells, Option.some.injEq] at hc
    subst hc
    obtain ⟨q1, q2⟩ := h.cells_one (by simpa [DV.cell] using h1)
    exact ⟨by rw [q2]; rfl, q1⟩
  | undef v => cases hc
  | it k => cases hc
  | tup vs ds h1 h2 => cases hc
  | ptr k off => cases hc; exact ⟨rfl, rfl⟩
  | ep b o cs h => cases hc; exact ⟨rfl, rfl⟩
  | mp k => cases hc; exact ⟨rfl, rfl⟩
  | fn f => cases hc; exact ⟨rfl, rfl⟩
  | anyb b => cases hc; exact ⟨rfl, rfl⟩
  | nilp T => cases hc
  | clo f vs cs h1 h2 => cases hc; exact ⟨rfl, rfl⟩
  | ag vs cs q1 q2 q3 q4 => cases h1
theorem vStore_ok {o : Oper} {t : TypeId} {ad x : Operand} (ho : o.op = .store t ad x) (h : vStore P G t ad x st = some out) : OpOk P G o st out := by
  unfold vStore at h
  split at h
  · rename_i k off ys ha hx
    split at h
    · rename_i cs hk
      split at h
      · rename_i hc
        obtain ⟨hlen, hne, hle⟩ := hc
        simp only [Option.some.injEq] at h; subst h
        intro base R μ a w hr
        obtain ⟨hbk, hnR, cur, T, hh, hsz, hcur, hnil⟩ := hr.objs k _ hk
        have hv := hr.eval x
        obtain ⟨hvs, hvc⟩ := vcells_ok hv hx
        have hone : ∀ u ∈ (a.eval x).cells.toList, u.oneCell' = true := fun u hu => by
          obtain ⟨i, hi⟩ := List.getElem?_of_mem hu
          have hil : i < ys.length := by rw [← hvs]; simpa using (List.getElem?_eq_some_iff.1 hi).1
          obtain ⟨_, _, h2⟩ := hvc i ys[i] (by simp [hil])
          have : (a.eval x).cells.getD i undef = u := by
            have : (a.eval x).cells[i]? = some u := by simpa using hi
            simp [Array.getD_eq_getD_getElem?, this]
          rw [this] at h2
          exact h2
        have hst := run_storeCells_at P (μ k) off T (a.eval x).cells.toList 0 cur w hh (by rw [hsz]; simp [hvs]; omega) hone
        simp only [Nat.add_zero] at hst
        have hrun : (execOp a.eval o).run P w = .ok .skip (w.setRow (μ k) (cur.toList.take off ++ (a.eval x).cells.toList ++ cur.toList.drop (off + (a.eval x).cells.toList.length)).toArray) := by
          have hnn : ¬ ((a.eval x).cells.size ≠ P.cellsOf t) := by rw [hvs, hlen]; simp
          simp only [execOp, ho, Sem.run_bind, hr.evalPtr ha, Instr.storeAt, Instr.sureAddr, storeVar, Sem.run_pure, Result.andThen_ok, info_ok (info_of_cells hne) w, if_neg hnn, hst]
        generalize hw' : w.setRow (μ k) (cur.toList.take off ++ (a.eval x).cells.toList ++ cur.toList.drop (off + (a.eval x).cells.toList.length)).toArray = w' at hrun
        have hlt : μ k < w.heap.size := (Array.getElem?_eq_some_iff.1 hh).1
        have hheap : w'.heap[μ k]? = some (.cells (cur.toList.take off ++ (a.eval x).cells.toList ++ cur.toList.drop (off + (a.eval x).cells.toList.length)).toArray T (0, 0)) := by
          rw [← hw']; exact setRow_heap w (μ k) cur _ T _ hh
        have hother : ∀ j, j ≠ μ k → w'.heap[j]? = w.heap[j]? := fun j hj => by rw [← hw']; exact setRow_other w (μ k) j _ hj
        obtain ⟨e1, e2, e3, e4⟩ := setRow_os w (μ k) (cur.toList.take off ++ (a.eval x).cells.toList ++ cur.toList.drop (off + (a.eval x).cells.toList.length)).toArray
        rw [hw'] at e1 e2 e3 e4
        have hstep := hr.stepObj hk e1 e2 e3 e4 hother
        have hcl : (a.eval x).cells.toList.length = ys.length := by simpa using hvs
        have hfit : off + (a.eval x).cells.toList.length ≤ cur.toList.length := by rw [hcl]; simp [hsz]; omega
        have hget : ∀ i, w'.cell? ⟨μ k, i, none⟩ = if i < off then cur[i]? else if i < off + ys.length then (a.eval x).cells[i - off]? else cur[i]? := fun i => by
          rw [cell_of_row w' _ _ _ T (0, 0) hheap, List.getElem?_toArray, splice_get _ _ _ hfit, hcl]
          simp
        have hob : ObjRel R μ w' (μ k) (.cells (overwrite cs off ys)) := by
          refine ⟨_, T, hheap, ?_, fun i d hi => ?_, hnil.overwrite (vcells_noNil hx) off⟩
          · rw [overwrite_len _ _ _ hle, ← hsz]
            simp only [List.size_toArray, List.length_append, List.length_take, List.length_drop]
            rw [hcl]; simp; omega
          · rw [overwrite_get _ _ _ hle] at hi
            rw [Array.getD_eq_getD_getElem?, List.getElem?_toArray, splice_get _ _ _ hfit, hcl]
            by_cases h1 : i < off
            · rw [if_pos h1] at hi ⊢
              have := hcur i d hi
              rw [Array.getD_eq_getD_getElem?] at this
              exact ⟨this.1, by simpa using this.2.of_step hstep⟩
            · rw [if_neg h1] at hi ⊢
              by_cases h2 : i < off + ys.length
              · rw [if_pos h2] at hi ⊢
                have := hvc _ d hi
                rw [Array.getD_eq_getD_getElem?] at this
                exact ⟨this.1, by simpa using this.2.1.of_step hstep⟩
              · rw [if_neg h2] at hi ⊢
                have := hcur i d hi
                rw [Array.getD_eq_getD_getElem?] at this
                exact ⟨this.1, by simpa using this.2.of_step hstep⟩
        have hkeysT : ∀ k' o1, getKey k' (setKey k (.cells (overwrite cs off ys)) st.H) = some o1 → ∃ o2, getKey k' st.H = some o2 := fun k' o1 h1 => by
          rw [getKey_setKey] at h1
          by_cases hkk : k = k'
          · subst hkk; exact ⟨_, hk⟩
          · rw [if_neg hkk] at h1; exact ⟨o1, h1⟩
        -- the own classes
        have hownE : (∀ c ∈ (if (st.eval G x).cell then ownAct (.c k off) (slAct (st.eval G x) (tmpAct x)) st.own else dropKey k st.own), ∀ k' off', Loc.c k' off' ∈ c.2 → ∃ o, getKey k' st.H = some o) ∧
            ∃ vs, Owns P base R μ { st with H := setKey k (.cells (overwrite cs off ys)) st.H, own := if (st.eval G x).cell then ownAct (.c k off) (slAct (st.eval G x) (tmpAct x)) st.own else dropKey k st.own } a w' vs := by
          obtain ⟨vs, hvs'⟩ := hr.own
          have hsl : ∀ e u, OwnSl P base R w e u → (∀ k o, getKey k st.H = some o → spareBlk u ≠ some (μ k)) → OwnSl P base R w' e u := fun e u hu hm =>
            hu.keep1 (fun g hg => hother g fun he => hm k _ hk (by rw [hg, he])) (fun _ _ _ h => h)
          by_cases hy : (st.eval G x).cell = true
          · simp only [hy, if_true]
            have hyc : ys.length = 1 ∧ (a.eval x).cells = #[a.eval x] := one_cell hv hx hy
            have hactcases : slAct (st.eval G x) (tmpAct x) = .no ∨ ∃ s, slAct (st.eval G x) (tmpAct x) = .al (.t s) := by
              unfold slAct
              split
              · cases x with
                | tmp s => exact .inr ⟨s, rfl⟩
                | _ => exact .inl rfl
              · exact .inl rfl
            refine ⟨fun c hc k' off' hl => ?_, ?_⟩
            · obtain ⟨i, hi⟩ := List.getElem?_of_mem hc
              rcases hactcases with ha' | ⟨s, ha'⟩
              · rw [ha'] at hi
                obtain ⟨c', hc', _, hm⟩ := mem_dropLoc hi
                exact hr.locs c' (List.mem_of_getElem? hc') k' off' ((hm _).1 hl).1
              · rw [ha'] at hi
                simp only [ownAct, reduceCtorEq, if_false] at hi
                obtain ⟨c', hc', _, hm⟩ := mem_addAlias hi
                rcases hm _ hl with hx' | ⟨hx', _⟩
                · obtain ⟨c0, hc0, _, hm0⟩ := mem_dropLoc hc'
                  exact hr.locs c0 (List.mem_of_getElem? hc0) k' off' ((hm0 _).1 hx').1
                · cases hx'; exact ⟨_, hk⟩
            · refine Owns.act (a' := a) (w' := w') (dst := .c k off) (v := a.eval x) (act := slAct (st.eval G x) (tmpAct x)) hr.own rfl hkeysT (fun c hc l hl hne' => ?_) (fun u hu => ?_) hsl (hr.slAct x)
              · cases l with
                | t i => rfl
                | c k' off' =>
                  obtain ⟨o1, h1⟩ := hr.locs c hc k' off' hl
                  by_cases hkk : k' = k
                  · subst hkk
                    have hoff : off' ≠ off := fun he => hne' (by rw [he])
                    simp only [locVal]
                    rw [hget, cell_of_row w _ _ cur T (0, 0) hh]
                    by_cases q1 : off' < off
                    · rw [if_pos q1]
                    · rw [if_neg q1, if_neg (by rw [hyc.1]; omega)]
                  · exact World.cell?_of_block (hother _ fun he => hkk (hr.inj k' k o1 _ h1 hk he))
              · simp only [locVal] at hu
                rw [hget, if_neg (by omega), if_pos (by rw [hyc.1]; omega), hyc.2] at hu
                simp at hu
                exact hu.symm
          · simp only [hy]
            refine ⟨fun c hc k' off' hl => ?_, vs, by simpa [dropKey] using hvs'.len, fun i c u hc hu => ?_, hvs'.apart⟩
            · obtain ⟨i, hi⟩ := List.getElem?_of_mem hc
              obtain ⟨c', hc', _, hm⟩ := mem_dropKey hi
              exact hr.locs c' (List.mem_of_getElem? hc') k' off' ((hm _).1 hl).1
            · obtain ⟨c', hc', he, hm⟩ := mem_dropKey hc
              have ho' := hvs'.one i c' u hc' hu
              refine ⟨fun l hl u' hu' => ?_, by rw [he]; exact hsl _ u ho'.own ho'.keys, fun k' o1 h1 => by obtain ⟨o2, h2⟩ := hkeysT k' o1 h1; exact ho'.keys k' o2 h2⟩
              have hx' := (hm l).1 hl
              refine ho'.locs l hx'.1 u' ?_
              cases l with
              | t i => exact hu'
              | c k' off' =>
                have hkk : k' ≠ k := by simpa [Loc.ofKey] using hx'.2
                obtain ⟨o1, h1⟩ := hr.locs c' (List.mem_of_getElem? hc') k' off' hx'.1
                rw [← hu']
                exact (World.cell?_of_block (hother _ fun he => hkk (hr.inj k' k o1 _ h1 hk he))).symm
        obtain ⟨hrel, hs⟩ := hr.setObj hk e1 e2 e3 e4 hother hob hownE.1 hownE.2
        exact ⟨Go.undef, w', R, μ, .inr ⟨hrun, rfl⟩, hrel, .tup #[] [] rfl (by simp), trivial, hs⟩
      · cases h
    · cases h
  · cases h
end
end Go.VM

set_option linter.unusedVariables false
set_option linter.unusedSimpArgs false
set_option linter.unusedSectionVars false
namespace Go.VM
open Go Go.RowKit

section
variable {P : Program} {G : GT} {st : St} {out : Out}
variable {base : Base} {R : Nat → Nat → Prop} {μ : Nat → Nat} {a : Act} {w w' : World}

theorem alloc_eq' (w : World) (o : Obj) : ({ w with heap := w.heap.push o } : World) = w.alloc o := rfl

theorem if_some {α : Type} {c : Prop} [Decidable c] {x y : α} (h : (if c then some x else none) = some y) : c ∧ x = y := by
  split at h
  · rename_i hc; exact ⟨hc, by simpa using h⟩
  · cases h
theorem newCells_ok {o : Oper} {d : Nat} {cs : List DV} {e : TypeId} (_hd : o.dst = some d) (h : ∀ base R μ a w, Rel P G base R μ st a w → ∃ vs : Array Value, (execOp a.eval o).run P w = .ok (.value (.pointer (some ⟨w.heap.size, 0, none⟩))) (w.alloc (.cells vs e)) ∧ vs.size = cs.length ∧
    ∀ (i : Nat) (x : DV), cs[i]? = some x → x.cell = true ∧ TV R μ w (vs.getD i undef) x) (hd' : d < 100000) (hm : ∀ x ∈ cs, mentions d x = false) (hnil : NilsOk e cs) : OpOk P G o st ⟨.ptr d 0, .no, newObjAt st d (.cells cs)⟩ := by
  intro base R μ a w hr
  obtain ⟨vs, h1, h2, h3⟩ := h base R μ a w hr
  have hs := Step.alloc (base := base) R w (.cells vs e) hr.base hr.rset
  obtain ⟨hrel, hst⟩ := hr.newObj d hd' (.cells cs) (.cells vs e) ⟨vs, e, heap_alloc_new w _, h2, fun i x hi => ⟨(h3 i x hi).1, ((h3 i x hi).2.of_step hs).rekey (key := d) (fun k hk => by simp [hk]) (hm x (List.mem_of_getElem? hi))⟩, hnil⟩
  refine ⟨_, _, R, _, .inl h1, hrel, ?_, trivial, hst⟩
  have := TV.ptr (R := R) (μ := fun k => if k = d then w.heap.size else μ k) (w := w.alloc (.cells vs e)) d 0
  simpa using this

theorem zObj_cases {cs : List DV} (h : zObj cs ≠ .cells cs) : ∃ T, cs = [.nilp T, .d .nils] ∧ zObj cs = .bld T false [] := by
  unfold zObj at h ⊢
  split at h
  · exact ⟨_, rfl, rfl⟩
  · exact absurd rfl h
theorem cellN_nilp {t T : TypeId} {v : Value} (h : cellN t v = .nilp T) : v = .pointer none ∧ T = t := by
  unfold cellN at h
  split at h
  · cases h
  · split at h
    · rename_i hn; cases h; exact ⟨isNilP_eq hn, rfl⟩
    · cases h
theorem cellN_nils {t : TypeId} {v : Value} (h : cellN t v = .d .nils) : v = .slice none 0 0 := by
  unfold cellN at h
  split at h
  · rename_i x hx
    cases h
    unfold ofScalar at hx
    split at hx <;> simp at hx
    rfl
  · split at h <;> cases h
theorem newBld_ok {o : Oper} {d : Nat} {cs : List DV} {e : TypeId} {z : Value} (hd : o.dst = some d) (hd' : d < 100000) (ho : o.op = .alloc e) (hz1 : (P.info? e).bind (·.zero) = some z) (hz2 : z.cells.toList.map (cellN e) = cs) (hzo : ¬ zObj cs = .cells cs) :
    OpOk P G o st ⟨.ptr d 0, .no, newObjAt st d (zObj cs)⟩ := by
  obtain ⟨T, hcs, hT⟩ := zObj_cases hzo
  rw [hT]
  rw [hcs] at hz2
  obtain ⟨v0, v1, hzz⟩ : ∃ v0 v1, z.cells = #[v0, v1] := by
    have hl := congrArg List.length hz2
    match hq : z.cells, hl with
    | ⟨[p, q]⟩, _ => exact ⟨p, q, rfl⟩
  rw [hzz] at hz2
  simp only [List.map_cons, List.map_nil, List.cons.injEq, and_true] at hz2
  obtain ⟨rfl, rfl⟩ := cellN_nilp hz2.1
  have h1 := cellN_nils hz2.2
  subst h1
  intro base R μ a w hr
  have hs := Step.alloc (base := base) R w (.cells #[.pointer none, .slice none 0 0] T) hr.base hr.rset
  obtain ⟨hrel, hst⟩ := hr.newObj d hd' (.bld T false []) (.cells #[.pointer none, .slice none 0 0] T) ⟨_, _, _, heap_alloc_new w _, fun _ => ⟨rfl, rfl⟩, rfl, .emp _ _, .inl rfl⟩
  refine ⟨.pointer (some ⟨w.heap.size, 0, none⟩), _, R, _, .inl ?_, hrel, ?_, trivial, hst⟩
  · obtain ⟨i', hi1, hi2⟩ := Option.bind_eq_some_iff.1 hz1
    simp [execOp, ho, Instr.alloc, zeroValue, typeInfo, hi1, hi2, newVar, newRow, hzz]
  · have := TV.ptr (R := R) (μ := fun k => if k = d then w.heap.size else μ k) (w := w.alloc (.cells #[.pointer none, .slice none 0 0] T)) d 0
    simpa using this

theorem vAlloc_ok {o : Oper} {e : TypeId} (ho : o.op = .alloc e) (h : vAlloc P o.dst e st = some out) : OpOk P G o st out := by
  unfold vAlloc at h
  split at h
  · rename_i d cs hd hz
    obtain ⟨hd', h⟩ := if_some h
    subst h
    refine newCells_ok (e := e) hd (fun base R μ a w hr => ?_) hd' (fun x hx => by obtain ⟨y, _, rfl⟩ := List.mem_map.1 hx; rfl) (fun T' hx => by obtain ⟨y, _, he⟩ := List.mem_map.1 hx; cases he)
    obtain ⟨zv, h1, h2, h3⟩ := zeroD_spec (R := R) hz w
    refine ⟨zv.cells, by simp [execOp, ho, Instr.alloc, h1, newVar, newRow], by simp [h2], fun i x hi => ?_⟩
    rw [List.getElem?_map] at hi
    obtain ⟨y, hy, rfl⟩ := Option.map_eq_some_iff.1 hi
    exact ⟨(h3 i y hy).1, .d _ _ (h3 i y hy).2⟩
  · rename_i d hd hz
    split at h
    · rename_i cs hc
      obtain ⟨hd', h⟩ := if_some h
      subst h
      have hcell : ∀ v : Value, (cellN e v).cell = true ∧ mentions d (cellN e v) = false := fun v => by
        unfold cellN
        split
        · rename_i x hx; exact ⟨(ofScalar_V (R := fun _ _ => True) (w := default) hx).2, rfl⟩
        · split <;> exact ⟨rfl, rfl⟩
      unfold zeroC at hc
      obtain ⟨z, hz1, hz2⟩ := Option.map_eq_some_iff.1 hc
      by_cases hzo : zObj cs = .cells cs
      case neg => exact newBld_ok hd hd' ho hz1 hz2 hzo
      rw [hzo]
      refine newCells_ok (e := e) hd (fun base R μ a w hr => ?_) hd' (fun x hx => by rw [← hz2] at hx; obtain ⟨y, _, rfl⟩ := List.mem_map.1 hx; exact (hcell y).2) (fun T' hx => by
        rw [← hz2] at hx
        obtain ⟨y, _, he⟩ := List.mem_map.1 hx
        unfold cellN at he
        split at he
        · cases he
        · split at he
          · cases he; rfl
          · cases he)
      refine ⟨z.cells, ?_, by rw [← hz2]; simp, fun i x hi => ?_⟩
      · obtain ⟨i', hi1, hi2⟩ := Option.bind_eq_some_iff.1 hz1
        simp [execOp, ho, Instr.alloc, zeroValue, typeInfo, hi1, hi2, newVar, newRow]
      · rw [← hz2, List.getElem?_map] at hi
        obtain ⟨y, hy, rfl⟩ := Option.map_eq_some_iff.1 hi
        refine ⟨(hcell y).1, ?_⟩
        have : z.cells.getD i undef = y := by
          have : z.cells[i]? = some y := by simpa using hy
          simp [Array.getD_eq_getD_getElem?, this]
        rw [this]
        unfold cellN
        split
        · rename_i u hu; exact .d _ _ (ofScalar_V hu).1
        · split
          · rename_i hn
            rw [isNilP_eq hn]
            exact .nilp _
          · exact .undef _
    · cases h
  · cases h

theorem vBox_ok {o : Oper} {e : TypeId} {x : Operand} (ho : o.op = .box e x) (h : vBox G o.dst x st = some out) : OpOk P G o st out := by
  unfold vBox at h
  split at h
  · rename_i d cs hd hx
    split at h
    · rename_i hm
      simp only [Option.some.injEq] at h; subst h
      simp only [Bool.and_eq_true, decide_eq_true_eq] at hm
      obtain ⟨hd', hm⟩ := hm
      refine newCells_ok (e := e) hd (fun base R μ a w hr => ?_) hd' (fun x hx => by have := List.all_eq_true.1 hm x hx; simpa using this) (NilsOk.of_noNil (vcells_noNil hx))
      obtain ⟨h1, h2⟩ := vcells_ok (hr.eval x) hx
      exact ⟨(a.eval x).cells, by simp [execOp, ho, Instr.box, newVar, newRow], h1, fun i c hi => ⟨(h2 i c hi).1, (h2 i c hi).2.1⟩⟩
    · cases h
  · cases h

theorem vMakeMap_ok {o : Oper} {t : TypeId} {r : Option Operand} (ho : o.op = .makeMap t r) (h : vMakeMap o.dst r st = some out) : OpOk P G o st out := by
  unfold vMakeMap at h
  split at h
  · rename_i d hd
    obtain ⟨hd', h⟩ := if_some h
    subst h
    intro base R μ a w hr
    obtain ⟨hrel, hst⟩ := hr.newObj d hd' (.map []) (.map #[] 0) ⟨#[], 0, heap_alloc_new w _, rfl, by simp⟩
    refine ⟨.map (some w.heap.size), _, R, _, .inl (by simp [execOp, ho, Instr.makeMap]), hrel, ?_, trivial, hst⟩
    have := TV.mp (R := R) (μ := fun k => if k = d then w.heap.size else μ k) (w := w.alloc (.map #[] 0)) d
    simpa using this
  · cases h

theorem vRange_ok {o : Oper} {t : TypeId} {x : Operand} (ho : o.op = .range t x) (h : vRange P G o.dst t x st = some out) : OpOk P G o st out := by
  unfold vRange at h
  split at h
  · rename_i d s hd hu hx
    obtain ⟨hd', h⟩ := if_some h
    subst h
    intro base R μ a w hr
    obtain ⟨hrel, hst⟩ := hr.newObj d hd' (.iter s 0) (.stringIter ⟨s.toArray⟩ 0) (heap_alloc_new w _)
    refine ⟨.pointer (some ⟨w.heap.size, 0, none⟩), _, R, _, .inl (by simp [execOp, ho, Instr.range, run_underlying hu, hr.evalStr hx]), hrel, ?_, trivial, hst⟩
    have := TV.it (R := R) (μ := fun k => if k = d then w.heap.size else μ k) (w := w.alloc (.stringIter ⟨s.toArray⟩ 0)) d
    simpa using this
  · cases h

/-- The world with block b made anew. -/
def setBlk (w : World) (b : Nat) (o : Obj) : World := { w with heap := w.heap.setIfInBounds b o }
theorem setBlk_same {b : Nat} {o o' : Obj} (h : w.heap[b]? = some o') : (setBlk w b o).heap[b]? = some o := by
  have hlt : b < w.heap.size := (Array.getElem?_eq_some_iff.1 h).1
  simp [setBlk, hlt]
theorem setBlk_other {b j : Nat} (o : Obj) (h : j ≠ b) : (setBlk w b o).heap[j]? = w.heap[j]? := by
  simp [setBlk, Ne.symm h]

/-- An object without cells is written. -/
theorem Rel.setBlk (h : Rel P G base R μ st a w) {k : Nat} {o o' : AObj} {ob old : Obj} (hk : getKey k st.H = some o) (hold : w.heap[μ k]? = some old) (hnc : ∀ c t f, ob ≠ .cells c t f)
    (hob : ∀ w', Step base R w R w' → w'.heap[μ k]? = some ob → ObjRel R μ w' (μ k) o') :
    Rel P G base R μ { st with H := setKey k o' st.H } a (setBlk w (μ k) ob) ∧ Step base R w R (Go.VM.setBlk w (μ k) ob) := by
  have hsz : (Go.VM.setBlk w (μ k) ob).heap.size = w.heap.size := by simp [Go.VM.setBlk]
  have hb : ∀ j, j ≠ μ k → (Go.VM.setBlk w (μ k) ob).heap[j]? = w.heap[j]? := fun j hj => setBlk_other ob hj
  have hs := h.stepObj (w' := Go.VM.setBlk w (μ k) ob) hk rfl rfl rfl hsz hb
  refine h.setObj (w' := Go.VM.setBlk w (μ k) ob) hk rfl rfl rfl hsz hb (hob _ hs (setBlk_same hold)) h.locs (Owns.noCells h hk hb fun off => ?_)
  simp only [World.cell?, setBlk_same (o := ob) hold]
  cases ob <;> first | rfl | exact absurd rfl (hnc _ _ _)

theorem run_setBlk {b : Nat} {old ob : Obj} (h : w.heap[b]? = some old) (hnc : ∀ c t f, old ≠ .cells c t f) : (Go.setObj b ob).run P w = .ok () (setBlk w b ob) := by
  cases old <;> first | exact absurd rfl (hnc _ _ _) | simp [Go.setObj, Sem.run, h, setBlk]

theorem run_getBlk {b : Nat} {old : Obj} (h : w.heap[b]? = some old) (hnc : ∀ c t f, old ≠ .cells c t f) : (Go.getObj b).run P w = .ok old w := by
  simp only [Go.getObj, Sem.run, h]
  try (cases old <;> first | rfl | exact absurd rfl (hnc _ _ _))

theorem vNext_ok {o : Oper} {x : Operand} {b : Bool} (ho : o.op = .next x b) (h : vNext G x b st = some out) : OpOk P G o st out := by
  unfold vNext at h
  split at h
  · rename_i k hx
    split at h
    · rename_i s pos hk
      split at h
      · rename_i hlt
        simp only [Option.some.injEq] at h; subst h
        intro base R μ a w hr
        obtain ⟨_, _, hh⟩ := hr.objs k _ hk
        change w.heap[μ k]? = _ at hh
        obtain ⟨hrel, hst⟩ := hr.setBlk (ob := .stringIter ⟨s.toArray⟩ (pos + (Utf8.decode ⟨s.toArray⟩ pos).2)) (o' := .iter s (pos + (Utf8.decode ⟨s.toArray⟩ pos).2)) hk hh (by simp) (fun w' _ h => h)
        refine ⟨.tuple #[.bool true, .int .i64 pos, .int .i32 (Utf8.decode ⟨s.toArray⟩ pos).1], _, R, μ, .inl ?_, hrel, ?_, trivial, hst⟩
        · simp [execOp, ho, hr.evalIt hx, Instr.next, run_getBlk (P := P) hh (by simp), bytes_size, hlt, run_setBlk (P := P) hh (by simp), goInt]
        · refine .tup _ _ rfl (fun i d hi => ?_)
          match i, hi with
          | 0, hi => simp at hi; subst hi; exact .bool _
          | 1, hi => simp at hi; subst hi; exact .int _ _
          | 2, hi => simp at hi; subst hi; exact .int _ _
          | n + 3, hi => simp at hi
      · rename_i hlt
        simp only [Option.some.injEq] at h; subst h
        refine opOk_pure fun base R μ a w hr => ?_
        obtain ⟨_, _, hh⟩ := hr.objs k _ hk
        change w.heap[μ k]? = _ at hh
        refine ⟨.tuple #[.bool false], ?_, ?_, trivial⟩
        · simp [execOp, ho, hr.evalIt hx, Instr.next, run_getBlk (P := P) hh (by simp), bytes_size, hlt]
        · refine .tup _ _ rfl (fun i d hi => ?_)
          match i, hi with
          | 0, hi => simp at hi; subst hi; exact .bool _
          | n + 1, hi => simp at hi
    · cases h
  · cases h

theorem eqCell_same {p q : D} {u v : Value} (hu : V R w u p) (hv : V R w v q) (h : eqCell p q = some true) (n : Nat) : Instr.sameBits n v u = true := by
  unfold eqCell at h
  split at h
  · obtain rfl := hu.int_inv
    obtain rfl := hv.int_inv
    split at h <;> simp at h
    rename_i hkk; subst hkk h
    cases n <;> simp [Instr.sameBits]
  · obtain rfl := hu.str_inv
    obtain rfl := hv.str_inv
    simp at h; subst h
    cases n <;> simp [Instr.sameBits, str_beq]
  · obtain rfl := hu.bool_inv
    obtain rfl := hv.bool_inv
    simp at h; subst h
    cases n <;> simp [Instr.sameBits]
  · cases h

theorem setKeyD_ok {d : TypeDesc} {k x : D} {u v : Value} (hu : V R w u k) (hx : V R w v x) (hf : fitDesc d k = true) : ∀ (l : List MapEntry) (es es' : List (D × D)) (n : Nat), Ents R w l es → setKeyD k x es = some es' →
    (Instr.findNow d u l n = some none ∧ ∀ born, Ents R w (l ++ [⟨u, v, born⟩]) es') ∨
    ∃ (i : Nat) (e : MapEntry), Instr.findNow d u l n = some (some (n + i, e.val)) ∧ l[i]? = some e ∧ Instr.sameBits 10000 e.key u = true ∧ Ents R w (l.set i { e with key := u, val := v }) es'
  | [], [], es', n, _, h => by
    simp [setKeyD] at h; subst h
    refine .inl ⟨rfl, fun born => ⟨rfl, fun i e k' v' he hk => ?_⟩⟩
    match i, he, hk with
    | 0, he, hk => simp at he hk; obtain ⟨rfl, rfl⟩ := hk; subst he; exact ⟨hu, hx⟩
    | i + 1, he, hk => simp at he
  | [], _ :: _, _, _, he, _ => by simp [Ents] at he
  | _ :: _, [], _, _, he, _ => by simp [Ents] at he
  | e :: l, (k', v') :: es, es', n, he, h => by
    have h0 := he.2 0 e k' v' rfl rfl
    simp only [setKeyD] at h
    split at h
    · rename_i hq
      simp at h; subst h
      refine .inr ⟨0, e, by simp [Instr.findNow, sameNow_ok hu h0.1 hf hq], rfl, eqCell_same hu h0.1 hq _, ?_⟩
      refine ⟨by simpa using he.1, fun i e' k1 v1 h1 h2 => ?_⟩
      match i, h1, h2 with
      | 0, h1, h2 => simp at h1 h2; obtain ⟨rfl, rfl⟩ := h2; subst h1; exact ⟨hu, hx⟩
      | i + 1, h1, h2 => exact he.2 (i + 1) e' k1 v1 (by simpa using h1) (by simpa using h2)
    · rename_i hq
      split at h <;> simp at h
      rename_i r' hr'
      subst h
      have cons : ∀ {l' : List MapEntry} {r : List (D × D)}, Ents R w l' r → Ents R w (e :: l') ((k', v') :: r) := fun {l' r} hE => ⟨by simp [hE.1], fun i e' k1 v1 h1 h2 => by
        match i, h1, h2 with
        | 0, h1, h2 => simp at h1 h2; obtain ⟨rfl, rfl⟩ := h2; subst h1; exact h0
        | i + 1, h1, h2 => exact hE.2 i e' k1 v1 (by simpa using h1) (by simpa using h2)⟩
      rcases setKeyD_ok hu hx hf l es r' (n + 1) he.tail hr' with ⟨h1, h2⟩ | ⟨i, e', h1, h2, h3, h4⟩
      · exact .inl ⟨by simp [Instr.findNow, sameNow_ok hu h0.1 hf hq, h1], fun born => by simpa using cons (h2 born)⟩
      · exact .inr ⟨i + 1, e', by simp [Instr.findNow, sameNow_ok hu h0.1 hf hq, h1]; omega, by simpa using h2, h3, by simpa using cons h4⟩
    · cases h

theorem ObjRel.of_ents {b : Nat} {ents : Array MapEntry} {clock : Nat} {es : List (D × D)} (hb : w.heap[b]? = some (.map ents clock)) (h : Ents R w ents.toList es) : ObjRel R μ w b (.map es) :=
  ⟨ents, clock, hb, by simpa using h.1, fun i k v hi => by
    have hil : i < ents.toList.length := by rw [h.1]; exact (List.getElem?_eq_some_iff.1 hi).1
    have he : ents.toList[i]? = some (ents.toList[i]) := List.getElem?_eq_getElem hil
    have := h.2 i _ k v he hi
    have hg : ents.getD i default = ents.toList[i] := by
      have h3 : ents[i]? = some (ents.toList[i]) := by rw [← Array.getElem?_toList]; exact he
      rw [Array.getD_eq_getD_getElem?, h3]; rfl
    rw [hg]; exact this⟩

theorem Ents.of_step (hs : Step base R w R w') {l : List MapEntry} {es : List (D × D)} (h : Ents R w l es) : Ents R w' l es := ⟨h.1, fun i e k v h1 h2 => ⟨(h.2 i e k v h1 h2).1.of_step hs, (h.2 i e k v h1 h2).2.of_step hs⟩⟩

theorem vMapUpdate_ok {o : Oper} {t : TypeId} {m k x : Operand} (ho : o.op = .mapUpdate t m k x) (h : vMapUpdate P G t m k x st = some out) : OpOk P G o st out := by
  unfold vMapUpdate at h
  split at h
  · rename_i kt et key kk xx hm hmx hk hx
    split at h
    · rename_i es hg hf
      simp only [Option.map_eq_some_iff] at h
      obtain ⟨es', hset, rfl⟩ := h
      obtain ⟨hu, d, hd, hs⟩ := mapOf_spec hm
      intro base R μ a w hr
      obtain ⟨_, _, ents, clock, hh, hsz, hev⟩ := hr.objs key _ hg
      have hE := Ents.of_obj hsz hev
      rcases setKeyD_ok (hr.evalD hk) (hr.evalD hx) (keyFits_spec hd hf) ents.toList es es' 0 hE hset with ⟨h1, h2⟩ | ⟨i, e, h1, h2, h3, h4⟩
      · obtain ⟨hrel, hst⟩ := hr.setBlk (ob := .map (ents.push ⟨a.eval k, a.eval x, clock⟩) (clock + 1)) (o' := .map es') hg hh (by simp)
          (fun w' hs' hb => ObjRel.of_ents hb ((by simpa using h2 clock : Ents R w (ents.push ⟨a.eval k, a.eval x, clock⟩).toList es').of_step hs'))
        refine ⟨Go.undef, _, R, μ, .inr ⟨?_, rfl⟩, hrel, .tup #[] [] rfl (by simp), trivial, hst⟩
        simp [execOp, ho, Instr.mapUpdate, run_underlying hu, hr.evalMp hmx, run_getMap (P := P) hh, run_checkKey_scalar (P := P) (w := w) hd hs, run_findKey_ok (P := P) (w := w) hd h1, run_setBlk (P := P) hh (by simp)]
      · have hil : i < ents.size := by simpa using (List.getElem?_eq_some_iff.1 h2).1
        have hei : ents[i]? = some e := by simpa using h2
        have hmod : (ents.modify i fun e => { e with key := a.eval k, val := a.eval x }).toList = ents.toList.set i { e with key := a.eval k, val := a.eval x } := by
          apply List.ext_getElem?
          intro j
          rw [Array.getElem?_toList, Array.getElem?_modify, List.getElem?_set]
          by_cases hij : i = j
          · subst hij
            have : ents[i] = e := by simpa [hil] using hei
            simp [hil, this]
          · simp [hij]
        obtain ⟨hrel, hst⟩ := hr.setBlk (ob := .map (ents.modify i fun e => { e with key := a.eval k, val := a.eval x }) clock) (o' := .map es') hg hh (by simp)
          (fun w' hs' hb => ObjRel.of_ents hb ((by rw [hmod]; exact h4 : Ents R w (ents.modify i fun e => { e with key := a.eval k, val := a.eval x }).toList es').of_step hs'))
        refine ⟨Go.undef, _, R, μ, .inr ⟨?_, rfl⟩, hrel, .tup #[] [] rfl (by simp), trivial, hst⟩
        have hkt : (Instr.keyThatStays e.key (a.eval k)).run P w = .ok (a.eval k) w := by simp [Instr.keyThatStays, h3]
        simp only [Nat.zero_add] at h1
        simp [execOp, ho, Instr.mapUpdate, run_underlying hu, hr.evalMp hmx, run_getMap (P := P) hh, run_checkKey_scalar (P := P) (w := w) hd hs, run_findKey_ok (P := P) (w := w) hd h1, hei, hkt, run_setBlk (P := P) hh (by simp)]
    · cases h
  · cases h

theorem delKeyD_ok {d : TypeDesc} {k : D} {u : Value} (hu : V R w u k) (hf : fitDesc d k = true) : ∀ (l : List MapEntry) (es es' : List (D × D)) (n : Nat), Ents R w l es → delKeyD k es = some es' →
    (Instr.findNow d u l n = some none ∧ Ents R w l es') ∨ ∃ (i : Nat) (e : MapEntry), Instr.findNow d u l n = some (some (n + i, e.val)) ∧ i < l.length ∧ Ents R w (l.eraseIdx i) es'
  | [], [], es', n, he, h => by
    simp [delKeyD] at h; subst h
    exact .inl ⟨rfl, he⟩
  | [], _ :: _, _, _, he, _ => by simp [Ents] at he
  | _ :: _, [], _, _, he, _ => by simp [Ents] at he
  | e :: l, (k', v') :: es, es', n, he, h => by
    have h0 := he.2 0 e k' v' rfl rfl
    simp only [delKeyD] at h
    split at h
    · rename_i hq
      simp at h; subst h
      exact .inr ⟨0, e, by simp [Instr.findNow, sameNow_ok hu h0.1 hf hq], by simp, he.tail⟩
    · rename_i hq
      split at h <;> simp at h
      rename_i r' hr'
      subst h
      have cons : ∀ {l' : List MapEntry} {r : List (D × D)}, Ents R w l' r → Ents R w (e :: l') ((k', v') :: r) := fun {l' r} hE => ⟨by simp [hE.1], fun i e' k1 v1 h1 h2 => by
        match i, h1, h2 with
        | 0, h1, h2 => simp at h1 h2; obtain ⟨rfl, rfl⟩ := h2; subst h1; exact h0
        | i + 1, h1, h2 => exact hE.2 i e' k1 v1 (by simpa using h1) (by simpa using h2)⟩
      rcases delKeyD_ok hu hf l es r' (n + 1) he.tail hr' with ⟨h1, h2⟩ | ⟨i, e', h1, h2, h4⟩
      · exact .inl ⟨by simp [Instr.findNow, sameNow_ok hu h0.1 hf hq, h1], cons h2⟩
      · exact .inr ⟨i + 1, e', by simp [Instr.findNow, sameNow_ok hu h0.1 hf hq, h1]; omega, by simpa using h2, by simpa using cons h4⟩
    · cases h

theorem vDelete_ok {o : Oper} {t : TypeId} {ts : Array TypeId} {m k : Operand} (ho : o.op = .call { callee := .builtin .delete, args := #[m, k], argTypes := ts }) (ht : ts[0]? = some t) (h : vDelete P G t m k st = some out) : OpOk P G o st out := by
  unfold vDelete at h
  split at h
  · rename_i kt et key kk hm hmx hk
    split at h
    · rename_i es hg hf
      simp only [Option.map_eq_some_iff] at h
      obtain ⟨es', hset, rfl⟩ := h
      obtain ⟨hu, d, hd, hs⟩ := mapOf_spec hm
      intro base R μ a w hr
      obtain ⟨_, _, ents, clock, hh, hsz, hev⟩ := hr.objs key _ hg
      have hE := Ents.of_obj hsz hev
      rcases delKeyD_ok (hr.evalD hk) (keyFits_spec hd hf) ents.toList es es' 0 hE hset with ⟨h1, h2⟩ | ⟨i, e, h1, h2, h4⟩
      · obtain ⟨hrel, hst⟩ := hr.setBlk (ob := .map ents clock) (o' := .map es') hg hh (by simp) (fun w' hs' hb => ObjRel.of_ents hb (h2.of_step hs'))
        refine ⟨.tuple #[], _, R, μ, .inl ?_, hrel, .tup #[] [] rfl (by simp), trivial, hst⟩
        simp [execOp, ho, resolve, invoke, builtin, Builtin.delete_, ht, run_underlying hu, hr.evalMp hmx, run_getMap (P := P) hh, run_checkKey_scalar (P := P) (w := w) hd hs, run_findKey_ok (P := P) (w := w) hd h1, run_setBlk (P := P) hh (by simp)]
      · have hil : i < ents.size := by simpa using h2
        obtain ⟨hrel, hst⟩ := hr.setBlk (ob := .map (ents.eraseIdxIfInBounds i) clock) (o' := .map es') hg hh (by simp) (fun w' hs' hb => ObjRel.of_ents hb ((by simpa [Array.eraseIdxIfInBounds, hil] using h4 : Ents R w (ents.eraseIdxIfInBounds i).toList es').of_step hs'))
        refine ⟨.tuple #[], _, R, μ, .inl ?_, hrel, .tup #[] [] rfl (by simp), trivial, hst⟩
        simp only [Nat.zero_add] at h1
        simp [execOp, ho, resolve, invoke, builtin, Builtin.delete_, ht, run_underlying hu, hr.evalMp hmx, run_getMap (P := P) hh, run_checkKey_scalar (P := P) (w := w) hd hs, run_findKey_ok (P := P) (w := w) hd h1, run_setBlk (P := P) hh (by simp)]
    · cases h
  · cases h
end
end Go.VM

set_option linter.unusedVariables false
set_option linter.unusedSimpArgs false
set_option linter.unusedSectionVars false
namespace Go.VM
open Go Go.RowKit

section
variable {P : Program} {G : GT} {st : St} {out : Out}
variable {base : Base} {R R' : Nat → Nat → Prop} {μ : Nat → Nat} {a : Act} {w w' : World}

theorem fill_seq (s : Nat) : ∀ (ps : List (Nat × Value)) (k : Nat) (cs : Array Value), (∀ (i : Nat) (p : Nat × Value), ps[i]? = some p → p.1 = k + i ∧ p.2.cells.size = s) → (k + ps.length) * s ≤ cs.size →
    ∃ cs', Instr.fill (fun i => some (i * s, s)) cs ps = some cs' ∧ cs'.size = cs.size ∧ (∀ n, n < k * s → cs'[n]? = cs[n]?) ∧ ∀ (i j : Nat) (p : Nat × Value), ps[i]? = some p → j < s → cs'[(k + i) * s + j]? = p.2.cells[j]?
  | [], k, cs, _, _ => ⟨cs, rfl, rfl, fun _ _ => rfl, by simp⟩
  | p :: ps, k, cs, hp, hl => by
    obtain ⟨h1, h2⟩ := hp 0 p rfl
    simp only [Nat.add_zero] at h1
    have hk : k * s + s ≤ cs.size := by
      have : (k + 1) * s ≤ (k + (p :: ps).length) * s := Nat.mul_le_mul_right _ (by simp only [List.length_cons]; omega)
      rw [Nat.add_mul, Nat.one_mul] at this; omega
    have hcond : (decide (p.2.cells.size ≠ s) || decide (p.1 * s + p.2.cells.size > cs.size)) = false := by
      rw [h1, h2]; simp; omega
    have hfill : Instr.fill (fun i => some (i * s, s)) cs (p :: ps) = Instr.fill (fun i => some (i * s, s)) ((p.2.cells.toList.zipIdx 0).foldl (fun cs (x : Value × Nat) => cs.setIfInBounds (p.1 * s + x.2) x.1) cs) ps := by
      obtain ⟨i, v⟩ := p
      simp only [Instr.fill, hcond, Bool.false_eq_true, if_false]
      congr 1
      rw [← Array.foldl_toList, Array.toList_zipIdx]
    have hget : ∀ n, ((p.2.cells.toList.zipIdx 0).foldl (fun cs (x : Value × Nat) => cs.setIfInBounds (p.1 * s + x.2) x.1) cs)[n]? = if k * s ≤ n ∧ n < k * s + s ∧ n < cs.size then p.2.cells[n - k * s]? else cs[n]? := fun n => by
      rw [foldl_set_get, h1]
      simp [h2]
    obtain ⟨cs', q1, q2, q3, q4⟩ := fill_seq s ps (k + 1) ((p.2.cells.toList.zipIdx 0).foldl (fun cs (x : Value × Nat) => cs.setIfInBounds (p.1 * s + x.2) x.1) cs) (fun i p' hi => by
      have := hp (i + 1) p' (by simpa using hi)
      exact ⟨by omega, this.2⟩) (by rw [fold_size]; simp at hl; rwa [show k + 1 + ps.length = k + (ps.length + 1) by omega])
    refine ⟨cs', by rw [hfill]; exact q1, by rw [q2, fold_size], fun n hn => ?_, fun i j p' hi hj => ?_⟩
    · rw [q3 n (by rw [Nat.add_mul]; omega), hget, if_neg (by omega)]
    · cases i with
      | zero =>
        simp at hi; subst hi
        rw [Nat.add_zero, q3 _ (by rw [Nat.add_mul]; omega), hget, if_pos ⟨by omega, by omega, by omega⟩]
        congr 1; omega
      | succ i =>
        have := q4 i j p' (by simpa using hi) hj
        rwa [show k + 1 + i = k + (i + 1) by omega] at this

/-- A NEW ROW OF CELLS: the world, what is settled, the slice over it. -/
theorem Rel.newRow (h : Rel P G base R μ st a w) {w1 : World} (hw1 : w1 = w ∨ w1 = w.drew) {e : TypeId} {cs : Array Value} {es : List (List D)} {n cap : Nat} (hsz : cs.size = cap * P.cellsOf e) (hs : 0 < P.cellsOf e) (hn : n = es.length) (hcap : n ≤ cap) (hmax : cap ≤ maxLen)
    (hlen : ∀ c ∈ es, c.length = P.cellsOf e) (hcs : ∀ (i j : Nat) (c : List D) (d : D), es[i]? = some c → c[j]? = some d → d.one = true ∧ ∃ v, cs[i * P.cellsOf e + j]? = some v ∧ V R w v d) :
    Rel P G base (fun b o => R b o ∨ (b = w.heap.size ∧ o < n * P.cellsOf e)) μ st a (w1.alloc (.cells cs e)) ∧
    Step base R w (fun b o => R b o ∨ (b = w.heap.size ∧ o < n * P.cellsOf e)) (w1.alloc (.cells cs e)) ∧
    V (fun b o => R b o ∨ (b = w.heap.size ∧ o < n * P.cellsOf e)) (w1.alloc (.cells cs e)) (.slice (some ⟨w.heap.size, 0, none⟩) n cap) (.sl es) ∧
    ActOk P base (fun b o => R b o ∨ (b = w.heap.size ∧ o < n * P.cellsOf e)) μ st a (w1.alloc (.cells cs e)) (.slice (some ⟨w.heap.size, 0, none⟩) n cap) (.fresh e) := by
  have hheap : w1.heap = w.heap := by rcases hw1 with rfl | rfl <;> rfl
  have hos : w1.os = w.os ∧ w1.tape = w.tape ∧ w1.output = w.output := by rcases hw1 with rfl | rfl <;> exact ⟨rfl, rfl, rfl⟩
  have hnew : (w1.alloc (.cells cs e)).heap[w.heap.size]? = some (.cells cs e (0, 0)) := by
    rw [← hheap]; exact heap_alloc_new w1 _
  have hold : ∀ k, k < w.heap.size → (w1.alloc (.cells cs e)).heap[k]? = w.heap[k]? := fun k hk => by
    rw [← hheap] at hk ⊢; exact Below.heap_alloc w1 _ k hk
  have hsize : (w1.alloc (.cells cs e)).heap.size = w.heap.size + 1 := by simp [hheap]
  have hst : Step base R w (fun b o => R b o ∨ (b = w.heap.size ∧ o < n * P.cellsOf e)) (w1.alloc (.cells cs e)) :=
    ⟨⟨hos.1, hos.2.1, hos.2.2, by omega, fun k hk => hold k (Nat.lt_of_not_le fun hx => hk (h.base k hx))⟩, fun _ _ h => .inl h, fun b o hr hn => by
      rcases hr with hr | ⟨rfl, _⟩
      · exact absurd hr hn
      · exact h.base _ (Nat.le_refl _), fun b o hr => World.cell?_of_block (hold b (h.rset b o hr))⟩
  have hrel := h.step hst hold (fun b o hr hn => by rcases hr with hr | ⟨rfl, _⟩; exact absurd hr hn; exact Nat.le_refl _) (fun b o hr => by
    rw [hsize]
    rcases hr with hr | ⟨rfl, _⟩
    · have := h.rset b o hr; omega
    · omega)
  refine ⟨hrel, hst, ?_, ?_, ?_, ?_⟩
  · by_cases h0 : n = 0
    · have : es = [] := List.eq_nil_of_length_eq_zero (by omega)
      rw [h0, this]; exact .emp _ _
    · have hcell : ∀ (i j : Nat) (c : List D) (d : D), es[i]? = some c → c[j]? = some d → ∃ v, (w1.alloc (.cells cs e)).cell? ⟨w.heap.size, 0 + i * P.cellsOf e + j, none⟩ = some v ∧ V R w v d := fun i j c d hi hj => by
        obtain ⟨_, v, h2, h3⟩ := hcs i j c d hi hj
        exact ⟨v, by rw [Nat.zero_add, cell_of_row _ _ _ cs e (0, 0) hnew]; exact h2, h3⟩
      refine .sl w.heap.size 0 n cap (P.cellsOf e) es (fun i j => ((w1.alloc (.cells cs e)).cell? ⟨w.heap.size, 0 + i * P.cellsOf e + j, none⟩).getD undef) hn hcap hs hlen (fun i j hi hj => ⟨.inr ⟨rfl, ?_⟩, ?_⟩) (fun i j c d hi hj => (hcs i j c d hi hj).1) (fun i j c d hi hj => ?_)
      · have : (i + 1) * P.cellsOf e ≤ n * P.cellsOf e := Nat.mul_le_mul_right _ (by omega)
        rw [Nat.add_mul] at this; omega
      · have hil : i < es.length := by omega
        have hei : es[i]? = some es[i] := List.getElem?_eq_getElem hil
        have hjl : j < (es[i]).length := by rw [hlen _ (List.mem_of_getElem? hei)]; exact hj
        obtain ⟨v, hv, _⟩ := hcell i j es[i] (es[i])[j] hei (List.getElem?_eq_getElem hjl)
        rw [hv]; rfl
      · obtain ⟨v, hv, hvd⟩ := hcell i j c d hi hj
        rw [hv]; exact hvd.of_step hst
  · refine .inr ⟨w.heap.size, n, cap, cs, rfl, h.base _ (Nat.le_refl _), hnew, hcap, hmax, hsz, fun off ho hr => ?_⟩
    rcases hr with hr | ⟨_, hr⟩
    · have := h.rset _ _ hr; omega
    · omega
  · intro k o hk hsp
    obtain ⟨_, _, h3⟩ := h.objs k o hk
    have := h3.lt
    simp only [spareBlk] at hsp
    split at hsp <;> simp at hsp
    omega
  · obtain ⟨vs, hvs⟩ := h.own
    refine ⟨vs, hvs.step h hold (fun b o hb hr => by rcases hr with hr | ⟨rfl, _⟩; exact hr; omega), fun v' hv' => ⟨fun g hg hg' => ?_, fun g hg hg' => ?_⟩⟩
    · have hlt := hvs.lt hv' hg'
      simp only [spareBlk] at hg
      split at hg <;> simp at hg
      omega
    · have hlt := hvs.lt hv' hg
      simp only [spareBlk] at hg'
      split at hg' <;> simp at hg'
      omega

theorem elemOk_spec {e : TypeId} (h : elemOk P e = true) : ∃ i z, P.info? e = some i ∧ i.size = P.cellsOf e ∧ i.bytes = P.bytesOf e ∧ 0 < P.cellsOf e ∧ i.zero = some z ∧ z.cells.size = P.cellsOf e := by
  unfold elemOk at h
  split at h
  · rename_i i hi
    have h1 : i.size = P.cellsOf e := by simp [Program.cellsOf, hi]
    have h2 : i.bytes = P.bytesOf e := by simp [Program.bytesOf, hi]
    simp only [Bool.and_eq_true, decide_eq_true_eq] at h
    cases hz : i.zero with
    | none => simp [hz] at h
    | some z =>
      simp [hz] at h
      exact ⟨i, z, hi, h1, h2, by omega, hz, by omega⟩
  · cases h

theorem elemOfD_spec {t e : TypeId} (h : elemOfD P t = some e) : P.underlying t = some (.slice e) := by
  unfold elemOfD at h
  split at h
  · simp at h; subst h; assumption
  · cases h

theorem vBuildSlice_ok {o : Oper} {t : TypeId} {len : Nat} {parts : Array (Nat × Operand)} (ho : o.op = .buildSlice t len parts) (h : vBuildSlice P G t len parts st = some out) : OpOk P G o st out := by
  unfold vBuildSlice at h
  split at h
  · rename_i e ps he hps
    split at h
    · rename_i hc
      simp only [Bool.and_eq_true, decide_eq_true_eq, beq_iff_eq] at hc
      obtain ⟨⟨⟨hok, hidx⟩, hall⟩, hbig⟩ := hc
      simp only [Option.some.injEq] at h; subst h
      obtain ⟨i, z, hi, hsize, hbytes, hpos, hz, hzs⟩ := elemOk_spec hok
      have hu := elemOfD_spec he
      intro base R μ a w hr
      obtain ⟨hl, hp⟩ := partsD_spec hr hps
      have hpl : ps.length = len := by have := congrArg List.length hidx; simpa using this
      have hlen2 : ∀ q ∈ ps, q.2.cells.length = P.cellsOf e := fun q hq => by simpa using List.all_eq_true.1 hall q hq
      have hget : ∀ (i : Nat) (p : Nat × Value), (parts.toList.map fun x => (x.1, a.eval x.2))[i]? = some p → ∃ q, ps[i]? = some q ∧ p.1 = i ∧ V R w p.2 q.2 := fun i p hpi => by
        have hil : i < ps.length := by rw [← hl]; have := (List.getElem?_eq_some_iff.1 hpi).1; simpa using this
        have hq : ps[i]? = some ps[i] := List.getElem?_eq_getElem hil
        obtain ⟨h1, h2⟩ := hp i p ps[i] hpi hq
        refine ⟨ps[i], hq, ?_, h2⟩
        have h3 : (ps.map (·.1))[i]? = (List.range len)[i]? := by rw [hidx]
        rw [List.getElem?_map, hq, List.getElem?_range (by omega)] at h3
        have h4 : ps[i].1 = i := by simpa using h3
        omega
      obtain ⟨cs', q1, q2, _, q4⟩ := fill_seq (P.cellsOf e) (parts.toList.map fun x => (x.1, a.eval x.2)) 0 ((Array.range (len * P.cellsOf e)).map fun i => (if len * P.cellsOf e = 0 then (#[] : Array Value) else z.cells)[i % (if len * P.cellsOf e = 0 then (#[] : Array Value) else z.cells).size]!)
        (fun i p hpi => by
          obtain ⟨q, hq, h1, h2⟩ := hget i p hpi
          exact ⟨by omega, by rw [h2.cells.1, hlen2 q (List.mem_of_getElem? hq)]⟩) (by simp [hl, hpl])
      have hcsz : cs'.size = len * P.cellsOf e := by rw [q2]; simp
      have hN := hr.newRow (w1 := w) (.inl rfl) (e := e) (cs := cs') (es := ps.map fun p => p.2.cells) (n := len) (cap := len) hcsz hpos (by simp [hpl]) (Nat.le_refl _)
        (by unfold maxLen; have : len * 1 ≤ len * P.cellsOf e := Nat.mul_le_mul_left _ hpos; omega) (fun c hc => by simp only [List.mem_map] at hc; obtain ⟨q, hq, rfl⟩ := hc; exact hlen2 q hq)
        (fun i j c d hi hj => by
          simp only [List.getElem?_map, Option.map_eq_some_iff] at hi
          obtain ⟨q, hq, rfl⟩ := hi
          have hil : i < parts.toList.length := by rw [hl]; exact (List.getElem?_eq_some_iff.1 hq).1
          have hpi : (parts.toList.map fun x => (x.1, a.eval x.2))[i]? = some ((parts.toList[i]).1, a.eval (parts.toList[i]).2) := by rw [List.getElem?_map, List.getElem?_eq_getElem hil]; rfl
          obtain ⟨_, hv⟩ := hp i _ q hpi hq
          obtain ⟨v1, v2⟩ := hv.cells
          have hjl : j < q.2.cells.length := (List.getElem?_eq_some_iff.1 hj).1
          obtain ⟨h1, h2⟩ := v2 j d hj
          have := q4 i j _ hpi (by rw [← hlen2 q (List.mem_of_getElem? hq)]; exact hjl)
          rw [Nat.zero_add] at this
          refine ⟨h1, _, ?_, h2⟩
          rw [this]
          have hjs : j < (a.eval (parts.toList[i]).2).cells.size := by rw [v1]; exact hjl
          rw [Array.getD_eq_getD_getElem?, Array.getElem?_eq_getElem hjs]; rfl)
      obtain ⟨n1, n2, n3, n4⟩ := hN
      refine ⟨_, _, _, μ, .inl ?_, n1, .d _ _ n3, n4, n2⟩
      have hbig' : ¬ (len * P.cellsOf e > 2 ^ 24) := by omega
      have hpar : (parts.map fun (x : Nat × Operand) => (x.1, a.eval x.2)).toList = parts.toList.map fun x => (x.1, a.eval x.2) := by simp
      have hso := info_ok (P := P) (t := e) (by rw [hi]; rfl) w
      by_cases h0 : len * P.cellsOf e = 0
      · simp only [h0, if_true] at q1
        simp only [execOp, ho, Instr.buildSlice, Sem.run_bind, run_underlying hu, Result.andThen_ok, hso, h0, gt_iff_lt, Nat.not_lt_zero, if_false, if_true, Sem.run_pure, hpar, q1, newRow]
        rfl
      · simp only [h0, if_false] at q1
        simp only [execOp, ho, Instr.buildSlice, Sem.run_bind, run_underlying hu, Result.andThen_ok, hso, if_neg hbig', h0, if_false, Sem.run_pure, zeroValue, typeInfo, hi, hz, hpar, q1, newRow, run_program]
        rfl
    · cases h
  · cases h
end
end Go.VM

set_option linter.unusedVariables false
set_option linter.unusedSimpArgs false
set_option linter.unusedSectionVars false
namespace Go.VM
open Go Go.RowKit

section
variable {P : Program} {G : GT} {st : St} {out : Out}
variable {base : Base} {R R' : Nat → Nat → Prop} {μ : Nat → Nat} {a : Act} {w w' : World}

/-- The cells of a row of elements, as one list. -/
theorem rowCells {b o size : Nat} {ys : List (List D)} (hlen : ∀ e ∈ ys, e.length = size) (hrun : ∀ (i : Nat) (e : List D), ys[i]? = some e → Run R w b (o + i * size) e) :
    ∃ news : List Value, news.length = ys.length * size ∧ (∀ (j : Nat) (u : Value), news[j]? = some u → w.cell? ((⟨b, o, none⟩ : Addr).add j) = some u) ∧ (∀ u ∈ news, u.oneCell' = true) ∧
      ∀ (i j : Nat) (c : List D) (d : D), ys[i]? = some c → c[j]? = some d → d.one = true ∧ ∃ v, news[i * size + j]? = some v ∧ V R w v d := by
  have hcell : ∀ n, n < ys.length * size → ∃ v d, w.cell? ⟨b, o + n, none⟩ = some v ∧ d.one = true ∧ V R w v d ∧ ∃ c, ys[n / size]? = some c ∧ c[n % size]? = some d := fun n hn => by
    have hs : 0 < size := by
      rcases Nat.eq_zero_or_pos size with h | h
      · subst h; simp at hn
      · exact h
    have hi : n / size < ys.length := by rw [Nat.div_lt_iff_lt_mul hs]; exact hn
    have hei : ys[n / size]? = some ys[n / size] := List.getElem?_eq_getElem hi
    have hj : n % size < (ys[n / size]).length := by rw [hlen _ (List.mem_of_getElem? hei)]; exact Nat.mod_lt _ hs
    have hd := List.getElem?_eq_getElem hj
    obtain ⟨h1, _, v, h3, h4⟩ := hrun _ _ hei _ _ hd
    have heq : o + n / size * size + n % size = o + n := by have := Nat.div_add_mod n size; rw [Nat.mul_comm] at this; omega
    rw [heq] at h3
    exact ⟨v, _, h3, h1, h4, _, hei, hd⟩
  refine ⟨(List.range (ys.length * size)).map fun n => (w.cell? ⟨b, o + n, none⟩).getD undef, by simp, fun j u hj => ?_, fun u hu => ?_, fun i j c d hi hj => ?_⟩
  · simp only [List.getElem?_map, Option.map_eq_some_iff] at hj
    obtain ⟨n, hn, rfl⟩ := hj
    have hlt : j < ys.length * size := by simpa using (List.getElem?_eq_some_iff.1 hn).1
    rw [List.getElem?_range hlt] at hn
    cases hn
    obtain ⟨v, d, h1, _⟩ := hcell j hlt
    rw [add_none, h1]; rfl
  · simp only [List.mem_map, List.mem_range] at hu
    obtain ⟨n, hn, rfl⟩ := hu
    obtain ⟨v, d, h1, h2, h3, _⟩ := hcell n hn
    rw [h1]; exact h3.oneCell h2
  · have hil : i < ys.length := (List.getElem?_eq_some_iff.1 hi).1
    have hjl : j < size := by rw [← hlen c (List.mem_of_getElem? hi)]; exact (List.getElem?_eq_some_iff.1 hj).1
    have hlt : i * size + j < ys.length * size := by
      have : (i + 1) * size ≤ ys.length * size := Nat.mul_le_mul_right _ hil
      rw [Nat.add_mul] at this; omega
    obtain ⟨h1, _, v, h3, h4⟩ := hrun i c hi j d hj
    refine ⟨h1, v, ?_, h4⟩
    rw [List.getElem?_map, List.getElem?_range hlt]
    simp only [Option.map_some]
    rw [show o + (i * size + j) = o + i * size + j by omega, h3]; rfl

theorem asSl_spec (hr : Rel P G base R μ st a w) {x : Operand} {ys : List (List D)} (h : asSl (st.eval G x) = some ys) : ∃ ao cap, a.eval x = .slice ao ys.length cap ∧
    (ys ≠ [] → ∃ b o size, ao = some ⟨b, o, none⟩ ∧ 0 < size ∧ (∀ e ∈ ys, e.length = size) ∧ ∀ (i : Nat) (e : List D), ys[i]? = some e → Run R w b (o + i * size) e) := by
  unfold asSl at h
  split at h
  · rename_i es hx
    simp at h; subst h
    obtain ⟨ao, cap, h1, _, h3⟩ := (hr.evalD hx).sl_inv
    exact ⟨ao, cap, h1, h3⟩
  · rename_i hx
    simp at h; subst h
    obtain ⟨ao, h1⟩ := (hr.evalD hx).nils_inv
    exact ⟨ao, 0, h1, fun h => absurd rfl h⟩
  · cases h

theorem takeOwn_spec {l : Loc} : ∀ {own : List (TypeId × List Loc)} {e : TypeId} {own' : List (TypeId × List Loc)}, takeOwn l own = some (e, own') → ∃ pre c post, own = pre ++ c :: post ∧ own' = pre ++ post ∧ c.1 = e ∧ l ∈ c.2
  | [], e, own', h => by simp [takeOwn] at h
  | c :: r, e, own', h => by
    simp only [takeOwn] at h
    split at h
    · rename_i hc
      simp at h
      exact ⟨[], c, r, rfl, h.2.symm, h.1, by simpa using hc⟩
    · simp only [Option.map_eq_some_iff] at h
      obtain ⟨⟨e', r'⟩, hr, he⟩ := h
      simp at he
      obtain ⟨pre, c', post, h1, h2, h3, h4⟩ := takeOwn_spec hr
      exact ⟨c :: pre, c', post, by simp [h1], by rw [← he.2, h2]; rfl, h3.trans he.1, h4⟩

/-- One class is given up: its slice. -/
theorem Rel.takeOwn (h : Rel P G base R μ st a w) {l : Loc} {e : TypeId} {own' : List (TypeId × List Loc)} (ht : Go.VM.takeOwn l st.own = some (e, own')) :
    Rel P G base R μ { st with own := own' } a w ∧ ∃ v vs, (∀ u, locVal a w μ l = some u → u = v) ∧ OwnSl P base R w e v ∧ (∀ k o, getKey k st.H = some o → spareBlk v ≠ some (μ k)) ∧ Owns P base R μ { st with own := own' } a w vs ∧ ∀ v' ∈ vs, Apart v v' ∧ Apart v' v := by
  obtain ⟨pre, c, post, h1, rfl, h3, h4⟩ := takeOwn_spec ht
  obtain ⟨vs, hvs⟩ := h.own
  have hpl : pre.length < vs.length := by rw [hvs.len, h1]; simp
  have hsplit : vs = vs.take pre.length ++ vs[pre.length] :: vs.drop (pre.length + 1) := by rw [← List.drop_eq_getElem_cons hpl, List.take_append_drop]
  have hc := hvs.one pre.length c vs[pre.length] (by rw [h1]; simp) (List.getElem?_eq_getElem hpl)
  have hap := hvs.apart
  rw [hsplit, List.pairwise_append, List.pairwise_cons] at hap
  have hO : Owns P base R μ { st with own := pre ++ post } a w (vs.take pre.length ++ vs.drop (pre.length + 1)) := by
    refine ⟨?_, fun i c' v hc' hv => ?_, ?_⟩
    · have := hvs.len
      rw [h1] at this
      simp at this ⊢; omega
    · by_cases hi : i < pre.length
      · refine (fun q => ⟨q.locs, q.own, q.keys⟩ : OwnOne P base R μ st a w c' v → _) (hvs.one i c' v ?_ ?_)
        · rw [h1, List.getElem?_append_left hi]; simpa [List.getElem?_append_left hi] using hc'
        · rw [List.getElem?_append_left (by simp; omega), List.getElem?_take] at hv
          rw [if_pos hi] at hv; exact hv
      · refine (fun q => ⟨q.locs, q.own, q.keys⟩ : OwnOne P base R μ st a w c' v → _) (hvs.one (i + 1) c' v ?_ ?_)
        · rw [h1, List.getElem?_append_right (by omega), show i + 1 - pre.length = (i - pre.length) + 1 by omega, List.getElem?_cons_succ]
          simpa [List.getElem?_append_right (Nat.le_of_not_lt hi)] using hc'
        · have hmin : min pre.length vs.length = pre.length := by omega
          rw [List.getElem?_append_right (by simp; omega), List.getElem?_drop] at hv
          simp only [List.length_take, hmin] at hv
          rwa [show pre.length + 1 + (i - pre.length) = i + 1 by omega] at hv
    · rw [List.pairwise_append]
      exact ⟨hap.1, hap.2.1.2, fun x hx y hy => hap.2.2 x hx y (.tail _ hy)⟩
  refine ⟨⟨h.defers, h.size, h.tmps, h.objs, h.inj, fun c' hc' k off hl => h.locs c' (by rw [h1]; simp at hc' ⊢; rcases hc' with q | q <;> simp [q]) k off hl, ⟨_, hO⟩, h.glob, h.rset, h.base, h.pass⟩, vs[pre.length], _, fun u hu => hc.locs l h4 u hu, by rw [← h3]; exact hc.own, hc.keys, hO, fun v' hv' => ?_⟩
  simp only [List.mem_append] at hv'
  rcases hv' with hv' | hv'
  · have := hap.2.2 v' hv' vs[pre.length] (.head _)
    exact ⟨fun g hg hg' => this g hg' hg, this⟩
  · have := hap.2.1.1 v' hv'
    exact ⟨this, fun g hg hg' => this g hg' hg⟩

/-- One of our rows is written behind what is read of it. -/
theorem Rel.growRow (h : Rel P G base R μ st a w) {g n m s : Nat} {e : TypeId} {cur cur' : Array Value} (hgk : ∀ k o, getKey k st.H = some o → μ k ≠ g) {vs : List Value} (hvs : Owns P base R μ st a w vs) (hgv : ∀ v ∈ vs, spareBlk v ≠ some g) (hb : base g)
    (hg : w.heap[g]? = some (.cells cur e (0, 0))) (hR : ∀ off, n * s ≤ off → ¬ R g off) (hcur : ∀ off, off < n * s → cur'[off]? = cur[off]?) :
    Rel P G base (fun b o => R b o ∨ (b = g ∧ o < (n + m) * s)) μ st a (w.setRow g cur') ∧ Step base R w (fun b o => R b o ∨ (b = g ∧ o < (n + m) * s)) (w.setRow g cur') ∧
    Owns P base (fun b o => R b o ∨ (b = g ∧ o < (n + m) * s)) μ st a (w.setRow g cur') vs := by
  have hother : ∀ j, j ≠ g → (w.setRow g cur').heap[j]? = w.heap[j]? := fun j hj => setRow_other w g j _ hj
  have hnew : (w.setRow g cur').heap[g]? = some (.cells cur' e (0, 0)) := setRow_heap w g cur _ e _ hg
  have hglt : g < w.heap.size := (Array.getElem?_eq_some_iff.1 hg).1
  have hst : Step base R w (fun b o => R b o ∨ (b = g ∧ o < (n + m) * s)) (w.setRow g cur') :=
    ⟨⟨rfl, rfl, rfl, by simp [World.setRow], fun k hk => hother k fun e => hk (e ▸ hb)⟩, fun _ _ h => .inl h, fun b o hr hn => by
      rcases hr with hr | ⟨rfl, _⟩
      · exact absurd hr hn
      · exact hb, fun b o hr => by
      by_cases hbg : b = g
      · subst hbg
        have hlt : o < n * s := Nat.lt_of_not_le fun hle => hR o hle hr
        rw [cell_of_row _ _ _ cur' e (0, 0) hnew, cell_of_row _ _ _ cur e (0, 0) hg, hcur o hlt]
      · exact World.cell?_of_block (hother b hbg)⟩
  have hO : Owns P base (fun b o => R b o ∨ (b = g ∧ o < (n + m) * s)) μ st a (w.setRow g cur') vs := by
    refine ⟨hvs.len, fun i c v hc hv => ?_, hvs.apart⟩
    have ho := hvs.one i c v hc hv
    have hne := hgv v (List.mem_of_getElem? hv)
    refine ⟨fun l hl u hu => ho.locs l hl u ?_, ho.own.keep1 (fun g' hg' => hother g' (by rintro rfl; exact hne hg')) (fun g' off hg' hr => ?_), ho.keys⟩
    · cases l with
      | t i => exact hu
      | c k off =>
        obtain ⟨o, hk⟩ := h.locs c (List.mem_of_getElem? hc) k off hl
        rw [← hu]
        exact (World.cell?_of_block (hother _ (hgk k o hk))).symm
    · rcases hr with hr | ⟨rfl, _⟩
      · exact hr
      · exact absurd hg' hne
  refine ⟨⟨h.defers, h.size, fun i v d hv hd => (h.tmps i v d hv hd).of_step hst, fun k o hk => ?_, h.inj, h.locs, ⟨vs, hO⟩, h.glob.of_step hst, fun b o hr => ?_, by have := h.base; simpa [World.setRow] using this, h.pass⟩, hst, hO⟩
  · obtain ⟨q1, q2, q3⟩ := h.objs k o hk
    refine ⟨q1, fun off hr => ?_, q3.of_step hst (hother _ (hgk k o hk))⟩
    rcases hr with hr | ⟨he, _⟩
    · exact q2 off hr
    · exact hgk k o hk he
  · have : b < w.heap.size := by
      rcases hr with hr | ⟨rfl, _⟩
      · exact h.rset b o hr
      · exact hglt
    simpa [World.setRow] using this

theorem run_append_none {t e ty : TypeId} {i : TypeInfo} (hu : P.underlying t = some (.slice e)) (hi : P.info? e = some i) (base : Option Addr) (n cap : Nat) (hn : n ≤ cap) (ao : Option Addr) (c : Nat) :
    (Builtin.append_ #[t, t] ty #[.slice base n cap, .slice ao 0 c]).run P w = .ok (.slice base n cap) w := by
  cases base <;> cases ao <;> simp [Builtin.append_, run_underlying hu, sizeOf, typeInfo, hi, Builtin.lenOf, hn, Builtin.firstCells, loadCells, loadCellsFrom, storeCells]

/-- A new row that holds the old elements and the new ones. -/
theorem append_new (hr : Rel P G base R μ st a w) {e : TypeId} {z : Value} (hs : 0 < P.cellsOf e) (hzs : z.cells.size = P.cellsOf e) {xs ys : List (List D)} {olds news : List Value} (old : Nat) (hb : xs.length + ys.length ≤ maxLen)
    (hlx : ∀ c ∈ xs, c.length = P.cellsOf e) (hly : ∀ c ∈ ys, c.length = P.cellsOf e) (hlo : olds.length = xs.length * P.cellsOf e) (hln : news.length = ys.length * P.cellsOf e)
    (ho : ∀ (i j : Nat) (c : List D) (d : D), xs[i]? = some c → c[j]? = some d → d.one = true ∧ ∃ v, olds[i * P.cellsOf e + j]? = some v ∧ V R w v d)
    (hn : ∀ (i j : Nat) (c : List D) (d : D), ys[i]? = some c → c[j]? = some d → d.one = true ∧ ∃ v, news[i * P.cellsOf e + j]? = some v ∧ V R w v d) (cs : Array Value)
    (hcs : cs = olds.toArray ++ news.toArray ++ Builtin.zeroCells z.cells (grownCap w (xs.length + ys.length) old e - (xs.length + ys.length))) :
    ∃ R', Rel P G base R' μ st a (w.drew.alloc (.cells cs e)) ∧ Step base R w R' (w.drew.alloc (.cells cs e)) ∧
      V R' (w.drew.alloc (.cells cs e)) (.slice (some ⟨w.heap.size, 0, none⟩) (xs.length + ys.length) (grownCap w (xs.length + ys.length) old e)) (.sl (xs ++ ys)) ∧
      ActOk P base R' μ st a (w.drew.alloc (.cells cs e)) (.slice (some ⟨w.heap.size, 0, none⟩) (xs.length + ys.length) (grownCap w (xs.length + ys.length) old e)) (.fresh e) := by
  have hge := grownCap_ge w (xs.length + ys.length) old e
  have hmax := grownCap_le_maxLen w (xs.length + ys.length) old e hb
  have hsz : cs.size = grownCap w (xs.length + ys.length) old e * P.cellsOf e := by
    rw [hcs]
    simp only [Array.size_append, List.size_toArray, size_zeroCells, hzs, hlo, hln, ← Nat.add_mul]
    congr 1; omega
  have := hr.newRow (w1 := w.drew) (.inr rfl) (e := e) (cs := cs) (es := xs ++ ys) (n := xs.length + ys.length) hsz hs (by simp) hge hmax
    (fun c hc => by simp at hc; rcases hc with hc | hc; exact hlx c hc; exact hly c hc) (fun i j c d hi hj => by
      by_cases hil : i < xs.length
      · rw [List.getElem?_append_left hil] at hi
        obtain ⟨h1, v, h2, h3⟩ := ho i j c d hi hj
        refine ⟨h1, v, ?_, h3⟩
        have hlt := (List.getElem?_eq_some_iff.1 h2).1
        rw [hcs, Array.getElem?_append, if_pos (by simp; omega), Array.getElem?_append, if_pos (by simpa using hlt)]
        simpa using h2
      · rw [List.getElem?_append_right (by omega)] at hi
        obtain ⟨h1, v, h2, h3⟩ := hn (i - xs.length) j c d hi hj
        refine ⟨h1, v, ?_, h3⟩
        have hlt := (List.getElem?_eq_some_iff.1 h2).1
        have hidx : i * P.cellsOf e + j = olds.length + ((i - xs.length) * P.cellsOf e + j) := by
          rw [hlo, ← Nat.add_assoc, ← Nat.add_mul]; congr 2; omega
        rw [hcs, hidx, Array.getElem?_append, if_pos (by simp; omega), Array.getElem?_append, if_neg (by simp)]
        simpa using h2)
  exact ⟨_, this⟩

theorem isU8_spec {e : TypeId} (h : isU8 P e = true) : P.underlying e = some (.int .u8) := by
  unfold isU8 at h
  split at h
  · assumption
  · cases h
/-- What is appended, in the model. -/
theorem appSrc_spec (hr : Rel P G base R μ st a w) {t t' e : TypeId} {x : Operand} {ys : List (List D)} (hu : P.underlying t = some (.slice e)) (hpos : 0 < P.cellsOf e) (h : appSrc P t t' (st.eval G x) = some ys) (hly : ∀ c ∈ ys, c.length = P.cellsOf e) :
    ∃ news : List Value, Src P (P.cellsOf e) t' (a.eval x) ys.length news w ∧ ∀ (i j : Nat) (c : List D) (d : D), ys[i]? = some c → c[j]? = some d → d.one = true ∧ ∃ v, news[i * P.cellsOf e + j]? = some v ∧ V R w v d := by
  unfold appSrc at h
  split at h
  · rename_i ht
    subst ht
    obtain ⟨ao, cap, h1, h2⟩ := asSl_spec hr h
    by_cases hne : ys = []
    · subst hne
      refine ⟨[], ?_, by simp⟩
      rw [h1]
      cases ao with
      | none => exact Src.ofNil w hu cap
      | some ad => exact Src.ofSlice w hu ad 0 cap [] (by simp) (by simp) (by simp)
    · obtain ⟨b, off, size, rfl, q1, q2, q3⟩ := h2 hne
      have hsz : size = P.cellsOf e := by
        cases ys with
        | nil => exact absurd rfl hne
        | cons c l => rw [← q2 c (.head _), hly c (.head _)]
      subst hsz
      obtain ⟨news, n1, n2, n3, n4⟩ := rowCells q2 q3
      refine ⟨news, ?_, n4⟩
      rw [h1]
      exact Src.ofSlice w hu _ _ cap news n1 n2 n3
  · split at h
    · rename_i e' s hk he hx
      have hee : e' = e := by
        have := elemOfD_spec he
        rw [hu] at this
        cases this
        rfl
      subst hee
      split at h
      · rename_i hc
        cases h
        refine ⟨byteCells ⟨s.toArray⟩, ?_, fun i j c d hi hj => ?_⟩
        · rw [hr.evalStr hx, hc.2]
          have := Src.ofString w hk ⟨s.toArray⟩
          simpa [ByteArray.size] using this
        · rw [List.getElem?_map] at hi
          obtain ⟨b, hb, rfl⟩ := Option.map_eq_some_iff.1 hi
          cases j with
          | zero =>
            simp at hj
            subst hj
            refine ⟨rfl, .int .u8 b.toNat, ?_, .int _ _⟩
            rw [hc.2]
            simp [byteCells, hb]
          | succ j => simp at hj
      · cases h
    · cases h
theorem run_append_zero {t t' e ty : TypeId} {i : TypeInfo} {x : Value} (hu : P.underlying t = some (.slice e)) (hi : P.info? e = some i) (hs : Src P i.size t' x 0 [] w) (b : Option Addr) (n cap : Nat) (hn : n ≤ cap) :
    (Builtin.append_ #[t, t'] ty #[.slice b n cap, x]).run P w = .ok (.slice b n cap) w := by
  rcases hs.kind with ⟨e', hk⟩ | hk <;> cases b <;> simp [Builtin.append_, run_underlying hu, run_underlying hk, sizeOf, typeInfo, hi, hs.len, hn, hs.cells, storeCells]
theorem run_append_room2 {t t' ty e : TypeId} {i : TypeInfo} (ht : P.underlying t = some (.slice e)) (hi : P.info? e = some i) {g sLen sCap : Nat} {cur : Array Value} (hg : w.heap[g]? = some (.cells cur e (0, 0))) {x : Value} {m : Nat} {news : List Value} (hs : Src P i.size t' x m news w)
    (hroom : sLen + m ≤ sCap) (hfit : sLen * i.size + news.length ≤ cur.size) :
    (Builtin.append_ #[t, t'] ty #[.slice (some ⟨g, 0, none⟩) sLen sCap, x]).run P w =
      .ok (.slice (some ⟨g, 0, none⟩) (sLen + m) sCap) (w.setRow g (cur.toList.take (sLen * i.size) ++ news ++ cur.toList.drop (sLen * i.size + news.length)).toArray) := by
  have hst := run_storeCells_at P g (sLen * i.size) e news 0 cur w hg (by simpa using hfit) hs.one
  simp only [Nat.add_zero] at hst
  rcases hs.kind with ⟨e', hk⟩ | hk <;> simp [Builtin.append_, run_underlying ht, run_underlying hk, sizeOf, typeInfo, hi, hs.len, hroom, hs.cells, Addr.add_lit, hst]
theorem vAppend_ok {o : Oper} {t t' : TypeId} {s x : Operand} (ho : o.op = .call { callee := .builtin .append, args := #[s, x], argTypes := #[t, t'] }) (h : vAppend P G t t' s x st = some out) : OpOk P G o st out := by
  unfold vAppend at h
  split at h
  case h_2 => cases h
  rename_i e ys he hys
  split at h
  case isFalse => cases h
  rename_i hc
  obtain ⟨hok, hall⟩ := hc
  obtain ⟨ti, z, hi, hsize, hbytes, hpos, hz, hzs⟩ := elemOk_spec hok
  have hu := elemOfD_spec he
  have hly : ∀ c ∈ ys, c.length = P.cellsOf e := fun c hc => by simpa using List.all_eq_true.1 hall c hc
  have hexec : ∀ (a : Act) (w : World) (v : Value) (w' : World), (Builtin.append_ #[t, t'] o.type #[a.eval s, a.eval x]).run P w = .ok v w' → (execOp a.eval o).run P w = .ok (.value v) w' := fun a w v w' hr => by
    simp [execOp, ho, resolve, invoke, builtin, hr]
  have hnews : ∀ {base : Base} {R : Nat → Nat → Prop} {μ : Nat → Nat} {a : Act} {w : World}, Rel P G base R μ st a w → ∃ news : List Value, Src P ti.size t' (a.eval x) ys.length news w ∧ ∀ (i j : Nat) (c : List D) (d : D), ys[i]? = some c → c[j]? = some d → d.one = true ∧ ∃ v, news[i * P.cellsOf e + j]? = some v ∧ V R w v d := fun hr => by
    rw [hsize]
    exact appSrc_spec hr hu hpos hys hly
  have hnil0 : ∀ {news : List Value} {v : Value} {w : World}, Src P ti.size t' v ys.length news w → ys = [] → news = [] := fun hs hy => by
    have := hs.newsLen
    rw [hy] at this
    exact List.eq_nil_of_length_eq_zero (by simpa using this)
  -- nothing held before
  have hnil : ∀ (st' : St) (own' : List (TypeId × List Loc)), st' = { st with own := own' } → ys.length * (P.bytesOf e + 1) ≤ 140737488355328 → ∀ {base : Base} {R : Nat → Nat → Prop} {μ : Nat → Nat} {a : Act} {w : World}, Rel P G base R μ st a w → Rel P G base R μ st' a w → (∃ ao, a.eval s = .slice ao 0 0) →
      ∃ v w' R' μ', ((execOp a.eval o).run P w = .ok (.value v) w' ∨ ((execOp a.eval o).run P w = .ok .skip w' ∧ v = Go.undef)) ∧ Rel P G base R' μ' st' a w' ∧ TV R' μ' w' v (.d (.sl ys)) ∧ ActOk P base R' μ' st' a w' v (.fresh e) ∧ Step base R w R' w' := by
    intro st' own' hst' hbd base R μ a w hr hr' ⟨ao, hs⟩
    obtain ⟨news, hsrc, h5⟩ := hnews hr
    have h2 : news.length = ys.length * P.cellsOf e := by rw [hsrc.newsLen, hsize]
    by_cases hne : ys = []
    · have hn0 := hnil0 hsrc hne
      subst hne
      subst hn0
      obtain ⟨vs, hvs⟩ := hr'.own
      refine ⟨.slice ao 0 0, w, R, μ, .inl (hexec a w _ w ?_), hr', .d _ _ (.emp _ _), ⟨.inl ⟨ao, rfl⟩, fun k o _ => by cases ao <;> simp [spareBlk], vs, hvs, fun v' _ => ⟨fun g hg => by cases ao <;> simp [spareBlk] at hg, fun g _ hg => by cases ao <;> simp [spareBlk] at hg⟩⟩, .refl _ _ _⟩
      rw [hs]
      exact run_append_zero hu hi hsrc ao 0 0 (Nat.le_refl _)
    · have hlen : 0 < ys.length := by cases ys with | nil => exact absurd rfl hne | cons _ _ => simp
      have hb1 : ys.length ≤ 140737488355328 := by rw [Nat.mul_add] at hbd; omega
      have hb2 : ys.length * P.bytesOf e ≤ 140737488355328 := by rw [Nat.mul_add] at hbd; omega
      obtain ⟨R', n1, n2, n3, n4⟩ := append_new hr' (e := e) (z := z) hpos hzs (xs := []) (ys := ys) (olds := []) (news := news) 0 (by unfold maxLen; simp; omega) (by simp) hly (by simp) h2 (by simp) h5 _ rfl
      simp only [List.length_nil, Nat.zero_add, List.nil_append] at n1 n2 n3 n4
      refine ⟨_, _, R', μ, .inl (hexec a w _ _ ?_), n1, .d _ _ n3, n4, n2⟩
      rw [hs]
      have := run_append_grow_src (P := P) w t t' o.type e ti z hu hi hz ao 0 0 [] (by cases ao <;> simp [Builtin.firstCells, loadCells, loadCellsFrom]) (a.eval x) ys.length news hsrc (by omega) (by omega) (by rw [hbytes]; exact growslice_fits (by omega) (by rw [Nat.zero_add]; exact hb2))
      simpa using this
  split at h
  · rename_i hsn
    split at h
    case isFalse => cases h
    rename_i hbd
    simp only [Option.some.injEq] at h; subst h
    intro base R μ a w hr
    exact hnil st st.own rfl hbd hr hr ((hr.evalD hsn).nils_inv)
  · rename_i xs i hsx
    split at h
    case h_2 => cases h
    rename_i e' own' htk
    split at h
    case isFalse => cases h
    rename_i hc
    obtain ⟨rfl, hallx, hbd⟩ := hc
    simp only [Option.some.injEq] at h; subst h
    intro base R μ a w hr
    obtain ⟨hr', v0, vs, hv0, hown, hkeys, hvs, hap⟩ := hr.takeOwn htk
    have hsv : a.eval (.tmp i) = v0 := by
      refine hv0 _ ?_
      show a.tmps[i]? = some (a.tmps.getD i undef)
      by_cases hs : i < a.tmps.size
      · simp [hs]
      · have h3 : ¬ i < st.tmps.length := by rw [← hr.size]; exact hs
        simp [St.eval, List.getD, List.getElem?_eq_none (Nat.le_of_not_lt h3)] at hsx
    have hV := hr.evalD hsx
    have hlx : ∀ c ∈ xs, c.length = P.cellsOf e' := fun c hc => by simpa using List.all_eq_true.1 hallx c hc
    rcases hown with ⟨ao, rfl⟩ | ⟨g, n, cap, cur, rfl, hbg, hg, hnc, hcm, hcs, hnR⟩
    · have hx0 : xs = [] := by
        obtain ⟨ao', cap', h1, _⟩ := hV.sl_inv
        rw [hsv] at h1
        exact List.eq_nil_of_length_eq_zero (Value.slice.inj h1).2.1.symm
      subst hx0
      simp only [List.length_nil, Nat.zero_add] at hbd
      simpa using hnil { st with own := own' } own' rfl hbd hr hr' ⟨ao, hsv⟩
    · obtain ⟨ao', cap', h1, _, hrunx⟩ := hV.sl_inv
      rw [hsv] at h1
      cases h1
      -- the old elements' cells
      have holds : ∃ olds : List Value, olds.length = xs.length * P.cellsOf e' ∧ (∀ (j : Nat) (u : Value), olds[j]? = some u → w.cell? ((⟨g, 0, none⟩ : Addr).add j) = some u) ∧
          ∀ (i j : Nat) (c : List D) (d : D), xs[i]? = some c → c[j]? = some d → d.one = true ∧ ∃ v, olds[i * P.cellsOf e' + j]? = some v ∧ V R w v d := by
        by_cases hx0 : xs = []
        · subst hx0; exact ⟨[], by simp, by simp, by simp⟩
        · obtain ⟨b, o', size, hba, q1, q2, q3⟩ := hrunx hx0
          cases hba
          have hsz : size = P.cellsOf e' := by
            cases xs with
            | nil => exact absurd rfl hx0
            | cons c l => rw [← q2 c (.head _), hlx c (.head _)]
          subst hsz
          obtain ⟨olds, n1, n2, _, n4⟩ := rowCells q2 q3
          exact ⟨olds, n1, n2, n4⟩
      obtain ⟨olds, o1, o2, o3⟩ := holds
      have hb1 : xs.length + ys.length ≤ 140737488355328 := by rw [Nat.mul_add] at hbd; omega
      have hb2 : (xs.length + ys.length) * P.bytesOf e' ≤ 140737488355328 := by rw [Nat.mul_add] at hbd; omega
      obtain ⟨news, hsrc, h5⟩ := hnews hr
      have h2 : news.length = ys.length * P.cellsOf e' := by rw [hsrc.newsLen, hsize]
      by_cases hne : ys = []
      · have hn0 := hnil0 hsrc hne
        subst hne
        subst hn0
        refine ⟨.slice (some ⟨g, 0, none⟩) xs.length cap, w, R, μ, .inl (hexec a w _ w ?_), hr', .d _ _ ?_, ⟨.inr ⟨g, _, cap, cur, rfl, hbg, hg, hnc, hcm, hcs, hnR⟩, hkeys, vs, hvs, hap⟩, .refl _ _ _⟩
        · rw [hsv]
          exact run_append_zero hu hi hsrc _ _ cap hnc
        · rw [List.append_nil, ← hsv]; exact hV
      · have hlen : 0 < ys.length := by cases ys with | nil => exact absurd rfl hne | cons _ _ => simp
        by_cases hroom : xs.length + ys.length ≤ cap
        · have hmul : (xs.length + ys.length) * P.cellsOf e' ≤ cap * P.cellsOf e' := Nat.mul_le_mul_right _ hroom
          have hfit : xs.length * P.cellsOf e' + news.length ≤ cur.size := by rw [h2, hcs, ← Nat.add_mul]; exact hmul
          have hrun := run_append_room2 (P := P) (ty := o.type) hu hi hg hsrc hroom (by rw [hsize]; exact hfit)
          rw [hsize] at hrun
          generalize hcur' : (cur.toList.take (xs.length * P.cellsOf e') ++ news ++ cur.toList.drop (xs.length * P.cellsOf e' + news.length)).toArray = cur' at hrun
          have hget : ∀ k, cur'[k]? = if k < xs.length * P.cellsOf e' then cur[k]? else if k < xs.length * P.cellsOf e' + news.length then news[k - xs.length * P.cellsOf e']? else cur[k]? := fun k => by
            rw [← hcur', List.getElem?_toArray, splice_get _ _ _ (by simpa using hfit)]
            simp
          have hspg : spareBlk (.slice (some ⟨g, 0, none⟩) xs.length cap) = some g := by simp [spareBlk]; omega
          obtain ⟨q1, q2, q3⟩ := hr'.growRow (g := g) (n := xs.length) (m := ys.length) (s := P.cellsOf e') (cur' := cur') (fun k o' hk he => hkeys k o' hk (by rw [hspg, he])) hvs (fun v' hv' hsp => (hap v' hv').1 g hspg hsp) hbg hg hnR (fun off hoff => by rw [hget, if_pos hoff])
          have hnew : (w.setRow g cur').heap[g]? = some (.cells cur' e' (0, 0)) := setRow_heap w g cur _ e' _ hg
          have hcsz : cur'.size = cap * P.cellsOf e' := by
            rw [← hcur', ← hcs]
            simp only [List.size_toArray, List.length_append, List.length_take, List.length_drop, Array.length_toList]
            omega
          refine ⟨.slice (some ⟨g, 0, none⟩) (xs.length + ys.length) cap, _, _, μ, .inl (hexec a w _ _ (by rw [hsv]; exact hrun)), q1, .d _ _ ?_, ?_, q2⟩
          · have hcell : ∀ (i j : Nat) (c : List D) (d : D), (xs ++ ys)[i]? = some c → c[j]? = some d → d.one = true ∧ ∃ v, (w.setRow g cur').cell? ⟨g, 0 + i * P.cellsOf e' + j, none⟩ = some v ∧ V R w v d := fun i j c d hi' hj => by
              rw [Nat.zero_add, cell_of_row _ _ _ cur' e' (0, 0) hnew, hget]
              by_cases hil : i < xs.length
              · rw [List.getElem?_append_left hil] at hi'
                obtain ⟨w1, v, w2, w3⟩ := o3 i j c d hi' hj
                have hlt := (List.getElem?_eq_some_iff.1 w2).1
                have hcellv := o2 _ v w2
                rw [add_none, Nat.zero_add, cell_of_row _ _ _ cur e' (0, 0) hg] at hcellv
                rw [if_pos (by omega)]
                exact ⟨w1, v, hcellv, w3⟩
              · rw [List.getElem?_append_right (by omega)] at hi'
                obtain ⟨w1, v, w2, w3⟩ := h5 (i - xs.length) j c d hi' hj
                have hlt := (List.getElem?_eq_some_iff.1 w2).1
                have hidx : i * P.cellsOf e' + j = xs.length * P.cellsOf e' + ((i - xs.length) * P.cellsOf e' + j) := by
                  rw [← Nat.add_assoc, ← Nat.add_mul]; congr 2; omega
                rw [hidx, if_neg (by omega), if_pos (by omega), Nat.add_sub_cancel_left]
                exact ⟨w1, v, w2, w3⟩
            refine .sl g 0 _ cap (P.cellsOf e') _ (fun i j => ((w.setRow g cur').cell? ⟨g, 0 + i * P.cellsOf e' + j, none⟩).getD undef) (by simp) hroom hpos (fun c hc => by simp at hc; rcases hc with hc | hc; exact hlx c hc; exact hly c hc) (fun i j hi' hj => ⟨.inr ⟨rfl, ?_⟩, ?_⟩) (fun i j c d hi' hj => (hcell i j c d hi' hj).1) (fun i j c d hi' hj => ?_)
            · have : (i + 1) * P.cellsOf e' ≤ (xs.length + ys.length) * P.cellsOf e' := Nat.mul_le_mul_right _ (by omega)
              rw [Nat.add_mul] at this; omega
            · have hil : i < (xs ++ ys).length := by simp; omega
              have hei := List.getElem?_eq_getElem hil
              have hjl : j < ((xs ++ ys)[i]).length := by
                have hm : (xs ++ ys)[i] ∈ xs ++ ys := List.getElem_mem hil
                rw [List.mem_append] at hm
                rcases hm with hm | hm
                · rw [hlx _ hm]; exact hj
                · rw [hly _ hm]; exact hj
              obtain ⟨_, v, hv, _⟩ := hcell i j _ _ hei (List.getElem?_eq_getElem hjl)
              rw [hv]; rfl
            · obtain ⟨_, v, hv, hvd⟩ := hcell i j c d hi' hj
              rw [hv]; exact hvd.of_step q2
          · refine ⟨.inr ⟨g, _, cap, cur', rfl, hbg, hnew, hroom, hcm, hcsz, fun off hoff hR => ?_⟩, fun k o' hk => by have := hkeys k o' hk; rw [hspg] at this; simpa [spareBlk, show cap ≠ 0 by omega] using this, vs, q3, fun v' hv' => ?_⟩
            · rcases hR with hR | ⟨_, hR⟩
              · have : xs.length * P.cellsOf e' ≤ (xs.length + ys.length) * P.cellsOf e' := Nat.mul_le_mul_right _ (by omega)
                exact hnR off (by omega) hR
              · omega
            · have hsp2 : spareBlk (.slice (some ⟨g, 0, none⟩) (xs.length + ys.length) cap) = some g := by simp [spareBlk]; omega
              exact ⟨fun g' hg' hg'' => (hap v' hv').1 g' (by rw [hspg, ← hsp2]; exact hg') hg'', fun g' hg' hg'' => (hap v' hv').2 g' hg' (by rw [hspg, ← hsp2]; exact hg'')⟩
        · obtain ⟨R', n1, n2, n3, n4⟩ := append_new hr' (e := e') (z := z) hpos hzs (xs := xs) (ys := ys) (olds := olds) (news := news) cap (by unfold maxLen; omega) hlx hly o1 h2 o3 h5 _ rfl
          refine ⟨_, _, R', μ, .inl (hexec a w _ _ ?_), n1, .d _ _ n3, n4, n2⟩
          rw [hsv]
          have := run_append_grow_src (P := P) w t t' o.type e' ti z hu hi hz (some ⟨g, 0, none⟩) xs.length cap olds (run_firstCells_some w.drew ti.size xs.length ⟨g, 0, none⟩ xs.length cap olds (by rw [o1, hsize]) (by simpa using o2)) (a.eval x) ys.length news hsrc (by omega) (by omega) (by rw [hbytes]; exact growslice_fits (by omega) hb2)
          rw [this]
          congr 3
          apply Array.ext'
          simp [List.append_assoc]
  · cases h
end
end Go.VM

set_option linter.unusedVariables false
set_option linter.unusedSimpArgs false
set_option linter.unusedSectionVars false
namespace Go.VM
open Go Go.RowKit

/-- A CONTRACT WITH OBJECTS: called in the state s0 (its temporaries are the arguments) it returns in the state s1 (its one temporary is the result): the objects of s0 lie where they lay. -/
def CH (P : Program) (G : GT) (f : FuncId) (s0 s1 : St) : Prop :=
  ∀ (base : Base) (R : Nat → Nat → Prop) (μ : Nat → Nat) (args : Array Value) (w : World), Rel P G base R μ s0 { tmps := args, defers := [] } w →
    Calls P f args w fun e w' => ∃ v R' μ', e = .returned v ∧ Rel P G base R' μ' s1 { tmps := #[v], defers := [] } w' ∧ Step base R w R' w'

/-- The callee's keys, and the caller's. -/
def rk : List (Nat × Nat) → Nat → Nat
  | [], k => k
  | p :: r, k => if p.1 = k then p.2 else rk r k
mutual
def renV (K : List (Nat × Nat)) : DV → DV
  | .ptr k o => .ptr (rk K k) o
  | .mp k => .mp (rk K k)
  | .it k => .it (rk K k)
  | .clo f cs => .clo f (renVs K cs)
  | .ag cs => .ag (renVs K cs)
  | d => d
def renVs (K : List (Nat × Nat)) : List DV → List DV
  | [] => []
  | d :: r => renV K d :: renVs K r
end
mutual
/-- Every object that is named is one of these. -/
def keysOk (K : List (Nat × Nat)) : DV → Bool
  | .ptr k _ => K.any fun p => p.1 == k
  | .mp k => K.any fun p => p.1 == k
  | .it k => K.any fun p => p.1 == k
  | .clo _ cs => keysOks K cs
  | .ag cs => keysOks K cs
  | _ => true
def keysOks (K : List (Nat × Nat)) : List DV → Bool
  | [] => true
  | d :: r => keysOk K d && keysOks K r
end
def renO (K : List (Nat × Nat)) : AObj → AObj
  | .cells cs => .cells (renVs K cs)
  | o => o
def keysOkO (K : List (Nat × Nat)) : AObj → Bool
  | .cells cs => keysOks K cs
  | _ => true
theorem renVs_eq (K : List (Nat × Nat)) : ∀ l, renVs K l = l.map (renV K)
  | [] => by simp [renVs]
  | d :: r => by simp [renVs, renVs_eq K r]
theorem keysOks_iff (K : List (Nat × Nat)) : ∀ l, keysOks K l = true ↔ ∀ d ∈ l, keysOk K d = true
  | [] => by simp [keysOks]
  | d :: r => by simp [keysOks, keysOks_iff K r]
theorem rk_mem {K : List (Nat × Nat)} {k : Nat} (h : (K.any fun p => p.1 == k) = true) : ∃ p ∈ K, p.1 = k ∧ rk K k = p.2 := by
  induction K with
  | nil => simp at h
  | cons p r ih =>
    unfold rk
    by_cases hp : p.1 = k
    · exact ⟨p, .head _, hp, by rw [if_pos hp]⟩
    · simp only [List.any_cons, Bool.or_eq_true, beq_iff_eq, hp, false_or] at h
      obtain ⟨q, h1, h2, h3⟩ := ih h
      exact ⟨q, .tail _ h1, h2, by rw [if_neg hp]; exact h3⟩

section
variable {P : Program} {G : GT} {R : Nat → Nat → Prop} {w : World} {K : List (Nat × Nat)} {μ ν : Nat → Nat}
/-- What reads under the caller's keys reads under the callee's, and back. -/
theorem TV.ren {v : Value} {d : DV} (hν : ∀ k, (K.any fun p => p.1 == k) = true → ν k = μ (rk K k)) : keysOk K d = true → TV R μ w v (renV K d) → TV R ν w v d := by
  intro hk h
  generalize he : renV K d = d' at h
  induction h generalizing d with
  | d v x h => cases d <;> simp only [renV] at he <;> cases he; exact .d v x h
  | undef v => cases d <;> simp only [renV] at he <;> cases he; exact .undef v
  | ptr k off =>
    cases d <;> simp only [renV] at he <;> cases he
    rw [← hν _ (by simpa [keysOk] using hk)]; exact .ptr _ off
  | ep b o cs h => cases d <;> simp only [renV] at he <;> cases he; exact .ep b o cs h
  | mp k =>
    cases d <;> simp only [renV] at he <;> cases he
    rw [← hν _ (by simpa [keysOk] using hk)]; exact .mp _
  | it k =>
    cases d <;> simp only [renV] at he <;> cases he
    rw [← hν _ (by simpa [keysOk] using hk)]; exact .it _
  | tup vs ds h1 h2 => cases d <;> simp only [renV] at he <;> cases he; exact .tup vs ds h1 h2
  | fn f => cases d <;> simp only [renV] at he <;> cases he; exact .fn f
  | anyb b => cases d <;> simp only [renV] at he <;> cases he; exact .anyb b
  | nilp T => cases d <;> simp only [renV] at he <;> cases he; exact .nilp T
  | clo f vs cs h1 h2 ih =>
    cases d <;> simp only [renV] at he <;> cases he
    rename_i cs0
    simp only [keysOk, keysOks_iff] at hk
    rw [renVs_eq] at h1 ih
    refine .clo f vs cs0 (by simpa using h1) fun i c hi => ?_
    exact ih i (renV K c) (by rw [List.getElem?_map, hi]; rfl) (hk c (List.mem_of_getElem? hi)) rfl
  | ag vs cs h1 h2 h3 h4 ih =>
    cases d <;> simp only [renV] at he <;> cases he
    rename_i cs0
    simp only [keysOk, keysOks_iff] at hk
    rw [renVs_eq] at h1 h2 h3 ih
    refine .ag vs cs0 (by simpa using h1) (fun i hi => h2 i (by simpa using hi)) (fun i c hi => ?_) fun i c hi => ?_
    · have := h3 i (renV K c) (by rw [List.getElem?_map, hi]; rfl)
      rw [← this]; cases c <;> rfl
    · exact ih i (renV K c) (by rw [List.getElem?_map, hi]; rfl) (hk c (List.mem_of_getElem? hi)) rfl
theorem TV.unren {v : Value} {d : DV} (hν : ∀ k, (K.any fun p => p.1 == k) = true → ν k = μ (rk K k)) : keysOk K d = true → TV R ν w v d → TV R μ w v (renV K d) := by
  intro hk h
  induction h with
  | d v x h => exact .d v x h
  | undef v => exact .undef v
  | ptr k off => rw [hν _ (by simpa [keysOk] using hk)]; exact .ptr _ off
  | ep b o cs h => exact .ep b o cs h
  | mp k => rw [hν _ (by simpa [keysOk] using hk)]; exact .mp _
  | it k => rw [hν _ (by simpa [keysOk] using hk)]; exact .it _
  | tup vs ds h1 h2 => exact .tup vs ds h1 h2
  | fn f => exact .fn f
  | anyb b => exact .anyb b
  | nilp T => exact .nilp T
  | clo f vs cs h1 h2 ih =>
    simp only [keysOk, keysOks_iff] at hk
    simp only [renV, renVs_eq]
    refine .clo f vs _ (by simpa using h1) fun i c hi => ?_
    rw [List.getElem?_map] at hi
    obtain ⟨c0, hc0, rfl⟩ := Option.map_eq_some_iff.1 hi
    exact ih i c0 hc0 (hk c0 (List.mem_of_getElem? hc0))
  | ag vs cs h1 h2 h3 h4 ih =>
    simp only [keysOk, keysOks_iff] at hk
    simp only [renV, renVs_eq]
    refine .ag vs _ (by simpa using h1) (fun i hi => h2 i (by simpa using hi)) (fun i c hi => ?_) fun i c hi => ?_
    · rw [List.getElem?_map] at hi
      obtain ⟨c0, hc0, rfl⟩ := Option.map_eq_some_iff.1 hi
      have := h3 i c0 hc0
      rw [← this]; cases c0 <;> rfl
    · rw [List.getElem?_map] at hi
      obtain ⟨c0, hc0, rfl⟩ := Option.map_eq_some_iff.1 hi
      exact ih i c0 hc0 (hk c0 (List.mem_of_getElem? hc0))
theorem renV_cell (d : DV) : (renV K d).cell = d.cell := by cases d <;> rfl
theorem ObjRel.ren {b : Nat} {o : AObj} (hν : ∀ k, (K.any fun p => p.1 == k) = true → ν k = μ (rk K k)) (hk : keysOkO K o = true) (h : ObjRel R μ w b (renO K o)) : ObjRel R ν w b o := by
  cases o with
  | cells cs =>
    obtain ⟨vs, T, h1, h2, h3, h4⟩ := h
    rw [renVs_eq] at h2 h3 h4
    simp only [keysOkO, keysOks_iff] at hk
    refine ⟨vs, T, h1, by simpa using h2, fun i d hi => ?_, fun T' hm => h4 T' (List.mem_map.2 ⟨_, hm, rfl⟩)⟩
    obtain ⟨q1, q2⟩ := h3 i (renV K d) (by rw [List.getElem?_map, hi]; rfl)
    exact ⟨by rw [renV_cell] at q1; exact q1, q2.ren hν (hk d (List.mem_of_getElem? hi))⟩
  | map es => exact h
  | iter s p => exact h
  | bld T u es => exact h
theorem ObjRel.unren {b : Nat} {o : AObj} (hν : ∀ k, (K.any fun p => p.1 == k) = true → ν k = μ (rk K k)) (hk : keysOkO K o = true) (h : ObjRel R ν w b o) : ObjRel R μ w b (renO K o) := by
  cases o with
  | cells cs =>
    obtain ⟨vs, T, h1, h2, h3, h4⟩ := h
    simp only [keysOkO, keysOks_iff] at hk
    refine ⟨vs, T, h1, by simp [renVs_eq, h2], fun i d hi => ?_, fun T' hm => ?_⟩
    · rw [renVs_eq, List.getElem?_map] at hi
      obtain ⟨d0, hd0, rfl⟩ := Option.map_eq_some_iff.1 hi
      exact ⟨by rw [renV_cell]; exact (h3 i d0 hd0).1, (h3 i d0 hd0).2.unren hν (hk d0 (List.mem_of_getElem? hd0))⟩
    · rw [renVs_eq] at hm
      obtain ⟨d0, hd0, he⟩ := List.mem_map.1 hm
      cases d0 <;> simp only [renV] at he <;> cases he
      exact h4 _ hd0
  | map es => exact h
  | iter s p => exact h
  | bld T u es => exact h
end
end Go.VM
