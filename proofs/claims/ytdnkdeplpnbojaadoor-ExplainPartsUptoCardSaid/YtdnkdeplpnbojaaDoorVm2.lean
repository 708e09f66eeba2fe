/- The abstract machine on plain data: what each operation does. No condition. -/
import Derived.Test.YtdnkdeplpnbojaaDoorVm1
set_option linter.unusedVariables false
set_option linter.unusedSimpArgs false
set_option linter.unusedSectionVars false
namespace Go.VM
open Go Go.RowKit
section
variable (P : Program) (G : GT)

/-- Only slices are owned. -/
def slAct (v : DV) (a : OA) : OA :=
  match v with
  | .d (.sl _) => a
  | _ => .no
def vMove (x : Operand) (st : St) : Option Out := some ⟨st.eval G x, slAct (st.eval G x) (tmpAct x), st⟩
def vPick (c a b : Operand) (st : St) : Option Out :=
  match st.eval G c with
  | .d (.bool t) => some ⟨if t then st.eval G a else st.eval G b, .no, st⟩
  | _ => none
def vAlloc (dst : Option Tmp) (e : TypeId) (st : St) : Option Out :=
  match dst, zeroD P e with
  | some d, some cs => some ⟨.ptr d 0, .no, newObjAt st d (.cells cs)⟩
  | _, _ => none
def vBox (dst : Option Tmp) (x : Operand) (st : St) : Option Out :=
  match dst, st.eval G x with
  | some d, .d y => some ⟨.ptr d 0, .no, newObjAt st d (.cells y.cells)⟩
  | _, _ => none
def isStruct (t : TypeId) : Bool :=
  match P.underlying t with
  | some (.struct fs) => fs.toList.all fun f => (P.info? f.type).isSome
  | _ => false
def vBuild (t : TypeId) (parts : Array (Nat × Operand)) (st : St) : Option Out :=
  if isStruct P t then
    match zeroD P t, partsD G st parts.toList with
    | some z, some ps => (fillD P t z ps).map fun cs => ⟨.d (.agg cs), .no, st⟩
    | _, _ => none
  else none
/-- A type that slices of it can be made and appended to. -/
def elemOk (e : TypeId) : Bool :=
  match P.info? e with
  | some i => decide (0 < i.size) && (match i.zero with | some z => z.cells.size == i.size | none => false)
  | none => false
def vBuildSlice (t : TypeId) (len : Nat) (parts : Array (Nat × Operand)) (st : St) : Option Out :=
  match elemOfD P t, partsD G st parts.toList with
  | some e, some ps =>
    if elemOk P e && (ps.map (·.1) == List.range len) && (ps.all fun p => p.2.cells.length == P.cellsOf e) && decide (len * P.cellsOf e ≤ 2 ^ 24) then
      some ⟨.d (.sl (ps.map fun p => p.2.cells)), .fresh e, st⟩
    else none
  | _, _ => none
def vLoad (t : TypeId) (x : Operand) (st : St) : Option Out :=
  match st.eval G x with
  | .ptr k off =>
    match getKey k st.H with
    | some (.cells cs) => (takeD P t (cs.drop off)).map fun y => ⟨.d y, slAct (.d y) (.al (.c k off)), st⟩
    | _ => none
  | .ep cs => (takeD P t cs).map fun y => ⟨.d y, .no, st⟩
  | _ => none
def vStore (t : TypeId) (a x : Operand) (st : St) : Option Out :=
  match st.eval G a, st.eval G x with
  | .ptr k off, .d y =>
    match getKey k st.H with
    | some (.cells cs) =>
      if y.cells.length = P.cellsOf t ∧ P.cellsOf t ≠ 0 ∧ off + y.cells.length ≤ cs.length then
        some ⟨.tup [], .no, { st with H := setKey k (.cells (overwrite cs off y.cells)) st.H, own := if y.one then ownAct (.c k off) (slAct (.d y) (tmpAct x)) st.own else dropKey k st.own }⟩
      else none
    | _ => none
  | _, _ => none
def vNilCheck (x : Operand) (st : St) : Option Out :=
  match st.eval G x with
  | .ptr k off => some ⟨.ptr k off, .no, st⟩
  | .ep cs => some ⟨.ep cs, .no, st⟩
  | .fn f => some ⟨.fn f, .no, st⟩
  | _ => none
def dbinT (op : BinOp) (t : TypeId) (a b : D) : Option D :=
  match a, b with
  | .bool x, .bool y =>
    match P.underlying t, op with
    | some .bool, .eql => some (.bool (x == y))
    | some .bool, .neq => some (.bool !(x == y))
    | _, _ => none
  | .agg xs, .agg ys =>
    match flatDescs P t with
    | some ds =>
      if fitDescs ds xs then
        match op, eqCells xs ys with
        | .eql, some r => some (.bool r)
        | .neq, some r => some (.bool !r)
        | _, _ => none
      else none
    | none => none
  | a, b => dbin op a b
def vBin (op : BinOp) (t : TypeId) (x y : Operand) (st : St) : Option Out :=
  match st.eval G x, st.eval G y with
  | .d a, .d b => (dbinT P op t a b).map fun c => ⟨.d c, .no, st⟩
  | _, _ => none
/-- The literal nil of a slice. -/
def isNilC : Operand → Bool
  | .const (.slice none 0 0) => true
  | _ => false
/-- A slice and nil: for an empty one the answer is not known. -/
def vNilTest (op : BinOp) (t : TypeId) (x : Operand) (st : St) : Option Out :=
  match P.underlying t, op, st.eval G x with
  | some (.slice _), .eql, .d (.sl es) => some ⟨if es.length = 0 then .anyb else .d (.bool false), .no, st⟩
  | some (.slice _), .neq, .d (.sl es) => some ⟨if es.length = 0 then .anyb else .d (.bool true), .no, st⟩
  | some (.slice _), .eql, .d .nils => some ⟨.anyb, .no, st⟩
  | some (.slice _), .neq, .d .nils => some ⟨.anyb, .no, st⟩
  | _, _, _ => none
def vBinN (op : BinOp) (t : TypeId) (x y : Operand) (st : St) : Option Out := if isNilC y then vNilTest P G op t x st else vBin P G op t x y st
def vUn (op : UnOp) (x : Operand) (st : St) : Option Out :=
  match st.eval G x with
  | .d a => (dunary op a).map fun c => ⟨.d c, .no, st⟩
  | _ => none
def bytesOfEs : List (List D) → Option (List UInt8)
  | [] => some []
  | [.int .u8 n] :: l => (bytesOfEs l).map fun bs => UInt8.ofNat n.toNat :: bs
  | _ => none
def isU8 (e : TypeId) : Bool :=
  match P.underlying e with
  | some (.int .u8) => true
  | _ => false
def dconv (src dst : TypeId) (a : D) : Option D :=
  match P.underlying src, P.underlying dst, a with
  | some _, some (.int k), .int _ n => some (.int k (k.wrap n))
  | some _, some .string, .str s => some (.str s)
  | some (.slice e), some .string, .sl es => if isU8 P e then (bytesOfEs es).map .str else none
  | some (.slice e), some .string, .nils => if isU8 P e then some (.str []) else none
  | _, _, _ => none
def vConv (src dst : TypeId) (x : Operand) (st : St) : Option Out :=
  match st.eval G x with
  | .d a => (dconv P src dst a).map fun c => ⟨.d c, .no, st⟩
  | _ => none
def vMakeMap (dst : Option Tmp) (r : Option Operand) (st : St) : Option Out :=
  match dst, r with
  | some d, none => some ⟨.mp d, .no, newObjAt st d (.map [])⟩
  | _, _ => none
def zeroValD (t : TypeId) : Option D := ((P.info? t).bind (·.zero)).bind fun z => isD (ofConst z)
def mapOf (t : TypeId) : Option (TypeId × TypeId) :=
  match P.underlying t with
  | some (.map k e) => (match P.underlying k with | some d => if scalarDesc d then some (k, e) else none | none => none)
  | _ => none
def keyFits (t : TypeId) (k : D) : Bool :=
  match P.underlying t with
  | some d => fitDesc d k
  | none => false
def vLookup (t : TypeId) (m k : Operand) (ok : Bool) (st : St) : Option Out :=
  match mapOf P t, st.eval G m, st.eval G k with
  | some (kt, e), .mp key, .d kk =>
    match getKey key st.H, zeroValD P e, keyFits P kt kk with
    | some (.map es), some z, true => (findKeyD kk es).map fun r => ⟨if ok then .tup [r.getD z, .bool r.isSome] else .d (r.getD z), .no, st⟩
    | _, _, _ => none
  | _, _, _ => none
def vMapUpdate (t : TypeId) (m k v : Operand) (st : St) : Option Out :=
  match mapOf P t, st.eval G m, st.eval G k, st.eval G v with
  | some (kt, _), .mp key, .d kk, .d x =>
    match getKey key st.H, keyFits P kt kk with
    | some (.map es), true => (setKeyD kk x es).map fun es' => ⟨.tup [], .no, { st with H := setKey key (.map es') st.H }⟩
    | _, _ => none
  | _, _, _, _ => none
def vExtract (x : Operand) (i : Nat) (st : St) : Option Out :=
  match st.eval G x with
  | .tup ds => (ds[i]?).map fun y => ⟨.d y, .no, st⟩
  | _ => none
def vField (t : TypeId) (x : Operand) (i : Nat) (st : St) : Option Out :=
  match st.eval G x, fieldOf P t i with
  | .d (.agg cs), some (off, u) => (takeD P u (cs.drop off)).map fun y => ⟨.d y, .no, st⟩
  | _, _ => none
def vIndex (t : TypeId) (x i : Operand) (st : St) : Option Out :=
  match P.underlying t, st.eval G x, st.eval G i with
  | some .string, .d (.str s), .d n => (idx n s.length).bind fun j => (s[j]?).map fun b => ⟨.d (.int .u8 b.toNat), .no, st⟩
  | some (.array len e), .d (.agg cs), .d n => (idx n len).bind fun j => (takeD P e (cs.drop (j * P.cellsOf e))).map fun y => ⟨.d y, .no, st⟩
  | _, _, _ => none
def vIndexAddr (t : TypeId) (x i : Operand) (st : St) : Option Out :=
  match P.underlying t, st.eval G x, st.eval G i with
  | some (.slice e), .d (.sl es), .d n => (idx n es.length).bind fun j => (es[j]?).bind fun cs => if cs.length = P.cellsOf e then some ⟨.ep cs, .no, st⟩ else none
  | some (.array len e), .ptr k off, .d n => if P.cellsOf e = 0 then none else (idx n len).map fun j => ⟨.ptr k (off + j * P.cellsOf e), .no, st⟩
  | some (.array len e), .ep cs, .d n => if P.cellsOf e = 0 then none else (idx n len).map fun j => ⟨.ep (cs.drop (j * P.cellsOf e)), .no, st⟩
  | _, _, _ => none
def vFieldAddr (t : TypeId) (x : Operand) (i : Nat) (st : St) : Option Out :=
  match fieldOf P t i with
  | some (off, u) =>
    if P.cellsOf u = 0 then none else
    match st.eval G x with
    | .ptr k o => some ⟨.ptr k (o + off), .no, st⟩
    | .ep cs => some ⟨.ep (cs.drop off), .no, st⟩
    | _ => none
  | none => none
def vSlice (t : TypeId) (x : Operand) (lo hi mx : Option Operand) (st : St) : Option Out :=
  match P.underlying t, st.eval G x, mx with
  | some .string, .d (.str s), none =>
    (optBound G st hi s.length s.length).bind fun h => (optBound G st lo 0 h).map fun l => ⟨.d (.str ((s.take h).drop l)), .no, st⟩
  | some (.slice e), .d (.sl es), none =>
    if P.cellsOf e ≠ 0 ∧ (es.all fun c => c.length == P.cellsOf e) = true then
      (optBound G st hi es.length es.length).bind fun h => (optBound G st lo 0 h).map fun l => ⟨.d (.sl ((es.take h).drop l)), .no, st⟩
    else none
  | some (.slice e), .d .nils, none =>
    if P.cellsOf e ≠ 0 then (optBound G st hi 0 0).bind fun h => (optBound G st lo 0 h).map fun _ => ⟨.d .nils, .no, st⟩ else none
  | some (.slice e), .d (.sl _), some m =>
    if P.cellsOf e ≠ 0 ∧ lo.isNone = true ∧ optBound G st hi 1 0 = some 0 ∧ optBound G st (some m) 1 0 = some 0 then some ⟨.d .nils, .no, st⟩ else none
  | some (.slice e), .d .nils, some m =>
    if P.cellsOf e ≠ 0 ∧ lo.isNone = true ∧ optBound G st hi 1 0 = some 0 ∧ optBound G st (some m) 1 0 = some 0 then some ⟨.d .nils, .no, st⟩ else none
  | _, _, _ => none
def vRange (dst : Option Tmp) (t : TypeId) (x : Operand) (st : St) : Option Out :=
  match dst, P.underlying t, st.eval G x with
  | some d, some .string, .d (.str s) => some ⟨.it d, .no, newObjAt st d (.iter s 0)⟩
  | _, _, _ => none
def vNext (it : Operand) (isString : Bool) (st : St) : Option Out :=
  match st.eval G it, isString with
  | .it k, true =>
    match getKey k st.H with
    | some (.iter s pos) =>
      if pos < s.length then
        some ⟨.tup [.bool true, .int .i64 pos, .int .i32 (Utf8.decode ⟨s.toArray⟩ pos).1], .no, { st with H := setKey k (.iter s (pos + (Utf8.decode ⟨s.toArray⟩ pos).2)) st.H }⟩
      else some ⟨.tup [.bool false], .no, st⟩
    | _ => none
  | _, _ => none

def vLen (t : TypeId) (x : Operand) (st : St) : Option Out :=
  match P.underlying t, st.eval G x with
  | some .string, .d (.str s) => some ⟨.d (.int .i64 s.length), .no, st⟩
  | some (.slice _), .d (.sl es) => some ⟨.d (.int .i64 es.length), .no, st⟩
  | some (.slice _), .d .nils => some ⟨.d (.int .i64 0), .no, st⟩
  | some (.map _ _), .mp k =>
    match getKey k st.H with
    | some (.map es) => some ⟨.d (.int .i64 es.length), .no, st⟩
    | _ => none
  | _, _ => none
/-- The class that holds 'l', taken out. -/
def takeOwn (l : Loc) : List (TypeId × List Loc) → Option (TypeId × List (TypeId × List Loc))
  | [] => none
  | c :: r => if c.2.contains l then some (c.1, r) else (takeOwn l r).map fun (e, r') => (e, c :: r')
def asSl : DV → Option (List (List D))
  | .d (.sl es) => some es
  | .d .nils => some []
  | _ => none
def vAppend (t t' : TypeId) (s x : Operand) (st : St) : Option Out :=
  match elemOfD P t, asSl (st.eval G x) with
  | some e, some ys =>
    if t = t' ∧ elemOk P e = true ∧ (ys.all fun c => c.length == P.cellsOf e) = true then
      match st.eval G s, s with
      | .d .nils, _ => if ys.length * (P.bytesOf e + 1) ≤ 140737488355328 then some ⟨.d (.sl ys), .fresh e, st⟩ else none
      | .d (.sl xs), .tmp i =>
        match takeOwn (.t i) st.own with
        | some (e', own') =>
          if e' = e ∧ (xs.all fun c => c.length == P.cellsOf e) = true ∧ (xs.length + ys.length) * (P.bytesOf e + 1) ≤ 140737488355328 then
            some ⟨.d (.sl (xs ++ ys)), .fresh e, { st with own := own' }⟩
          else none
        | none => none
      | _, _ => none
    else none
  | _, _ => none
def vDelete (t : TypeId) (m k : Operand) (st : St) : Option Out :=
  match mapOf P t, st.eval G m, st.eval G k with
  | some (kt, _), .mp key, .d kk =>
    match getKey key st.H, keyFits P kt kk with
    | some (.map es), true => (delKeyD kk es).map fun es' => ⟨.tup [], .no, { st with H := setKey key (.map es') st.H }⟩
    | _, _ => none
  | _, _, _ => none
def vBuiltin (b : Builtin) (args : List Operand) (ts : List TypeId) (st : St) : Option Out :=
  match b, args, ts with
  | .len, [x], [t] => vLen P G t x st
  | .append, [s, x], [t, t'] => vAppend P G t t' s x st
  | .delete, [m, k], t :: _ => vDelete P G t m k st
  | _, _, _ => none

/-- WHAT AN OPERATION THAT CALLS NO FUNCTION DOES. -/
def vop (o : Oper) (st : St) : Option Out :=
  match o.op with
  | .move x => vMove G x st
  | .assign x => vMove G x st
  | .pick c a b => vPick G c a b st
  | .alloc e => vAlloc P o.dst e st
  | .box _ x => vBox G o.dst x st
  | .build t parts => vBuild P G t parts st
  | .buildSlice t len parts => vBuildSlice P G t len parts st
  | .load t x => vLoad P G t x st
  | .store t a x => vStore P G t a x st
  | .nilCheck x => vNilCheck G x st
  | .binOp op t x y _ => vBinN P G op t x y st
  | .unOp op _ x => vUn G op x st
  | .convert src dst x => vConv P G src dst x st
  | .makeMap _ r => vMakeMap o.dst r st
  | .lookup t m k ok => vLookup P G t m k ok st
  | .mapUpdate t m k v => vMapUpdate P G t m k v st
  | .extract x i => vExtract G x i st
  | .field t x i => vField P G t x i st
  | .index t x i => vIndex P G t x i st
  | .indexAddr t x i => vIndexAddr P G t x i st
  | .fieldAddr t x i => vFieldAddr P G t x i st
  | .slice t x lo hi mx => vSlice P G t x lo hi mx st
  | .range t x => vRange P G o.dst t x st
  | .next it b => vNext G it b st
  | .call { callee := .builtin b, args, argTypes } => vBuiltin P G b args.toList argTypes.toList st
  | _ => none

/-- The call of a function that the operation makes. -/
def callOf (o : Oper) (st : St) : Option (FuncId × List D) :=
  match o.op with
  | .call { callee := .value x, args, .. } =>
    match st.eval G x, allD (args.toList.map (st.eval G)) with
    | .fn f, some ds => some (f, ds)
    | _, _ => none
  | _ => none

def yieldedD (ops : Array Oper) (tmps : List DV) (j : Nat) : DV := (((ops[j]?).bind (·.dst)).bind (tmps[·]?)).getD (.tup [])
/-- Is the operation carried out? (none: not known) -/
def wantedD (o : Oper) (ops : Array Oper) (tmps : List DV) : Option Bool :=
  match o.guard with
  | none => some true
  | some (j, want) =>
    match yieldedD ops tmps j with
    | .undef => none
    | .anyb => none
    | .d (.bool b) => some (b == want)
    | _ => some false
end
end Go.VM
