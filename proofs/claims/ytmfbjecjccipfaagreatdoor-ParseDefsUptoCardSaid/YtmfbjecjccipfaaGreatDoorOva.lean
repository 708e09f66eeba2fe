/- Lemmas. No condition. -/
import Derived.WalkKit
import Derived.Laws.StructEq
import Derived.Laws.Strings2
import Derived.MapKept
import Derived.Deep.AppendSrc
set_option linter.unusedVariables false
set_option linter.unusedSimpArgs false
set_option linter.unusedSectionVars false
set_option maxRecDepth 100000
set_option maxHeartbeats 64000000
theorem g2Y:type_of% @Option.map_eq_some_iff:=@Option.map_eq_some_iff
theorem g2Z:type_of% @Bool.and_eq_true:=@Bool.and_eq_true
theorem g3a:type_of% @List.getElem?_eq_some_iff:=@List.getElem?_eq_some_iff
theorem g3b:type_of% @Array.getD_eq_getD_getElem?:=@Array.getD_eq_getD_getElem?
theorem g3c:type_of% @List.all_eq_true:=@List.all_eq_true
theorem g3d:type_of% @List.getElem?_eq_getElem:=@List.getElem?_eq_getElem
theorem g3e:type_of% @List.mem_of_getElem?:=@List.mem_of_getElem?
theorem g3f:type_of% @Option.some.injEq:=@Option.some.injEq
theorem g3g:type_of% @List.mem_singleton:=@List.mem_singleton
theorem g3h:type_of% @List.getElem?_append_right:=@List.getElem?_append_right
theorem g3i:type_of% @Array.getElem?_eq_some_iff:=@Array.getElem?_eq_some_iff
theorem g3j:type_of% @List.getElem?_map:=@List.getElem?_map
theorem g3k:type_of% @List.getElem?_append_left:=@List.getElem?_append_left
theorem g3l:type_of% @Bool.or_eq_true:=@Bool.or_eq_true
theorem g3m:type_of% @List.drop_eq_getElem_cons:=@List.drop_eq_getElem_cons
theorem g3n:type_of% @Option.bind_eq_some_iff:=@Option.bind_eq_some_iff
theorem g3o:type_of% @List.take_succ_eq_append_getElem:=@List.take_succ_eq_append_getElem
theorem g3p:type_of% @Nat.le_refl:=@Nat.le_refl
theorem g3q:type_of% @List.getElem?_of_mem:=@List.getElem?_of_mem
theorem g3r:type_of% @Array.getElem?_eq_getElem:=@Array.getElem?_eq_getElem
theorem g3s:type_of% @List.getElem?_drop:=@List.getElem?_drop
theorem g3t:type_of% @Bool.false_eq_true:=@Bool.false_eq_true
theorem g3u:type_of% @List.mem_map:=@List.mem_map
theorem g3v:type_of% @Bool.not_eq_true':=@Bool.not_eq_true'
theorem g3w:type_of% @List.mem_cons:=@List.mem_cons
theorem g3x:type_of% @Bool.eq_false_or_eq_true:=@Bool.eq_false_or_eq_true
theorem g3y:type_of% @List.getElem_mem:=@List.getElem_mem
theorem g3z:type_of% @List.mem_append:=@List.mem_append
theorem g3A:type_of% @Option.map_map:=@Option.map_map
theorem g3B:type_of% @Option.isSome_iff_exists:=@Option.isSome_iff_exists
theorem g3C:type_of% @List.isEmpty_eq_false_iff:=@List.isEmpty_eq_false_iff
theorem g3D:type_of% @List.length_pos_iff:=@List.length_pos_iff
theorem g3E:type_of% @List.mem_filterMap:=@List.mem_filterMap
theorem g3F:type_of% @List.getElem?_take:=@List.getElem?_take
theorem g3G:type_of% @List.getElem?_eq_none:=@List.getElem?_eq_none
theorem g3H:type_of% @Array.getElem?_append_left:=@Array.getElem?_append_left
theorem g3I:type_of% @Nat.le_of_not_lt:=@Nat.le_of_not_lt
theorem g3J:type_of% @List.eq_nil_of_length_eq_zero:=@List.eq_nil_of_length_eq_zero
theorem g3K:type_of% @List.length_append:=@List.length_append
theorem g3L:type_of% @List.length_take:=@List.length_take
theorem g3M:type_of% @List.take_append_drop:=@List.take_append_drop
theorem g3N:type_of% @decide_eq_true_eq:=@decide_eq_true_eq
theorem g3O:type_of% @Go.Sem.run_bind:=@Go.Sem.run_bind
theorem g3P:type_of% @Go.run_underlying:=@Go.run_underlying
theorem g3Q:type_of% @Go.Result.andThen_ok:=@Go.Result.andThen_ok
theorem g3R:type_of% @List.getElem?_replicate:=@List.getElem?_replicate
theorem g3S:type_of% @List.take_length:=@List.take_length
theorem g3T:type_of% @Nat.mul_le_mul_right:=@Nat.mul_le_mul_right
theorem g3U:type_of% @Option.map_bind:=@Option.map_bind
theorem g3V:type_of% @Go.World.cell?_of_block:=@Go.World.cell?_of_block
theorem g3W:type_of% @Array.getElem?_append_right:=@Array.getElem?_append_right
theorem g3X:type_of% @Array.mem_toList_iff:=@Array.mem_toList_iff
theorem g3Y:type_of% @List.length_drop:=@List.length_drop
theorem g3Z:type_of% @Array.getElem?_setIfInBounds_ne:=@Array.getElem?_setIfInBounds_ne
theorem g4a:type_of% @List.mem_of_mem_take:=@List.mem_of_mem_take
theorem g4b:type_of% @List.getD_eq_getElem?_getD:=@List.getD_eq_getElem?_getD
section
namespace Go.VM
open Go Go.RowKit
inductive D where
 |int (k:IntKind) (n:Int)
 |bool (b:Bool)
 |str (s:List UInt8)
 |aE
 |sl (es:List (List D))
 |agg (cs:List D)
inductive DV where
 |d (x:D)
 |undef
 |ptr (key off:Nat)
 |ep (cs:List D)
 |mp (key:Nat)
 |it (key:Nat)
 |cY (ds:List D)
 |fn (f:FuncId)
 |rQ
 |a0E (T:TypeId)
 |clo (f:FuncId) (c2d:List DV)
 |ag (cs:List DV)
inductive bH where
 |cells (cs:List DV)
 |map (es:List (D×D))
 |iter (s:List UInt8) (pos:Nat)
 |bld (T:TypeId) (u:Bool) (es:List (List D))
inductive Loc where
 |t (i:Nat)
 |c (key off:Nat)
 deriving DecidableEq
inductive OA where
 |no
 |al (l:Loc)
 |fresh (e:TypeId)
structure St where
 tmps:List DV
 H:List (Nat×bH)
 own:List (TypeId×List Loc)
def D.one:D->Bool
 |.agg _=>false
 |_=>true
def D.cells:D->List D
 |.agg cs=>cs
 |x=>[x]
def a0F:Value->Option D
 |.int k n=>some (.int k n)
 |.bool b=>some (.bool b)
 |.string s=>some (.str s.data.toList)
 |.slice none 0 0=>some .aE
 |_=>none
def zU:List Value->Option (List D)
 |[]=>some []
 |v::l=>match a0F v,zU l with
  |some x,some ds=>some (x::ds)
  |_,_=>none
def ofConst:Value->DV
 |.agg cs=>match zU cs.toList with
  |some ds=>.d (.agg ds)
  |none=>.undef
 |v=>match a0F v with
  |some x=>.d x
  |none=>.undef
abbrev GT:=Nat->Option (List D)
def St.eval(G:GT)(st:St):Operand->DV
 |.tmp t=>st.tmps.getD t (.cY [])
 |.const v=>ofConst v
 |.global g=>match G g with
  |some cs=>.ep cs
  |none=>.undef
 |.func f=>.fn f
def getKey(k:Nat):List (Nat×bH)->Option bH
 |[]=>none
 |(k',o)::r=>if k'=k then some o else getKey k r
def a1Z(k:Nat)(o:bH):List (Nat×bH)->List (Nat×bH)
 |[]=>[]
 |(k',o')::r=>if k'=k then(k,o)::r else(k',o')::a1Z k o r
def oQ(k:Nat)(o:bH):List (Nat×bH)->List (Nat×bH)
 |[]=>[(k,o)]
 |(k',o')::r=>if k<k' then(k,o)::(k',o')::r else(k',o')::oQ k o r
def cE(k:Nat)(o:bH)(H:List (Nat×bH)):List (Nat×bH):=if (getKey k H).isSome then a1Z k o H else oQ k o H
mutual
def mentions (key:Nat):DV->Bool
 |.ptr k _=>k==key
 |.mp k=>k==key
 |.it k=>k==key
 |.clo _ cs=>pP key cs
 |.ag cs=>pP key cs
 |_=>false
def pP (key:Nat):List DV->Bool
 |[]=>false
 |d::r=>mentions key d||pP key r
end
def oL(key:Nat)(d:DV):DV:=if mentions key d then .undef else d
def a2V(key:Nat):bH->bH
 |.cells cs=>.cells (cs.map (oL key))
 |o=>o
def dF(l:Loc)(own:List (TypeId×List Loc)):List (TypeId×List Loc):=own.map λc=>(c.1,c.2.filter λx=>decide (x≠l))
def Loc.a0G(key:Nat):Loc->Bool
 |.c k _=>k==key
 |_=>false
def dropKey(key:Nat)(own:List (TypeId×List Loc)):List (TypeId×List Loc):=own.map λc=>(c.1,c.2.filter λx=> !x.a0G key)
def addAlias(src dst:Loc)(own:List (TypeId×List Loc)):List (TypeId×List Loc):=own.map λc=>if c.2.contains src then(c.1,dst::c.2) else c
def gH(dst:Loc)(act:OA)(own:List (TypeId×List Loc)):List (TypeId×List Loc):=
 match act with
 |.no=>dF dst own
 |.al l=>if l=dst then own else addAlias l dst (dF dst own)
 |.fresh e=>(e,[dst])::dF dst own
def finish(st:St)(dst:Option Tmp)(v:DV)(act:OA):St:=
 match dst with
 |none=>st
 |some d=>{st with tmps:=st.tmps.set d v,own:=gH (.t d) act st.own}
def jQ(st:St)(key:Nat)(o:bH):St:=
 {tmps:=st.tmps.map (oL key),H:=cE key o (st.H.map λp=>(p.1,a2V key p.2)),own:=dropKey key st.own}
def qU:TypeDesc->Bool
 |.struct _|.array _ _=>true
 |_=>false
def takeD(P:Program)(t:TypeId)(cs:List D):Option D:=
 match P.underlying t with
 |some d=>if qU d then(if P.cellsOf t<=cs.length then some (.agg (cs.take (P.cellsOf t))) else none) else cs.head?
 |none=>none
def c2e:Value->Bool
 |.pointer none=>true
 |_=>false
def cellOf(v:Value):DV:=match a0F v with
 |some x=>.d x
 |none=>.undef
def a2W(t:TypeId)(v:Value):DV:=match a0F v with
 |some x=>.d x
 |none=>if c2e v then .a0E t else .undef
def c4Q(P:Program)(t:TypeId):Option (List DV):=((P.info? t).bind (·.zero)).map λz=>z.cells.toList.map (a2W t)
def mF(P:Program)(t:TypeId):Option (List D):=((P.info? t).bind (·.zero)).bind λz=>zU z.cells.toList
def c4R(P:Program)(t:TypeId):Option (List DV):=((P.info? t).bind (·.zero)).bind λz=>if z.cells.toList.all (·.oneCell') then some (z.cells.toList.map cellOf) else none
def b5X:List DV->bH
 |[.a0E T,.d .aE]=>.bld T false []
 |cs=>.cells cs
def jH(P:Program)(t:TypeId):Option TypeId:=
 match P.underlying t with
 |some (.slice e)=>some e
 |_=>none
def aO(P:Program)(t:TypeId)(i:Nat):Option (Nat×TypeId):=
 match P.underlying t with
 |some (.struct fs)=>(fs[i]?).map λf=>(f.offset,f.type)
 |_=>none
def e0O(op:BinOp):D->D->Option D
 |.int k a,.int k' b=>
  if k≠k' then none else
  match op with
  |.add=>some (.int k (k.wrap (a+b)))
  |.sub=>some (.int k (k.wrap (a-b)))
  |.mul=>some (.int k (k.wrap (a*b)))
  |.quo=>if b=0 then none else some (.int k (k.wrap (a.tdiv b)))
  |.rem=>if b=0 then none else some (.int k (a.tmod b))
  |.eql=>some (.bool (a==b))
  |.neq=>some (.bool (a !=b))
  |.lss=>some (.bool (decide (a<b)))
  |.leq=>some (.bool (decide (a<=b)))
  |.gtr=>some (.bool (decide (a>b)))
  |.geq=>some (.bool (decide (a>=b)))
  |_=>none
 |.str a,.str b=>
  match op with
  |.add=>if a.length+b.length<=9223372036854775807 then some (.str (a++b)) else none
  |.eql=>some (.bool (a==b))
  |.neq=>some (.bool !(a==b))
  |.lss=>some (.bool (Op.bytesLess a b))
  |.leq=>some (.bool (Op.bytesLess a b||a==b))
  |.gtr=>some (.bool !(Op.bytesLess a b||a==b))
  |.geq=>some (.bool !(Op.bytesLess a b))
  |_=>none
 |_,_=>none
def b5Y:D->D->Option Bool
 |.int k a,.int k' b=>if k=k' then some (a==b) else none
 |.str a,.str b=>some (a==b)
 |.bool a,.bool b=>some (a==b)
 |_,_=>none
def a1q:List D->List D->Option Bool
 |[],[]=>some true
 |x::xs,y::ys=>match b5Y x y,a1q xs ys with
  |some a,some b=>some (a&&b)
  |_,_=>none
 |_,_=>none
def zV:TypeDesc->Bool
 |.bool|.int _|.string=>true
 |_=>false
def a4n(P:Program):Nat->List Field->Option (List TypeDesc)
 |_,[]=>some []
 |k,f::fs=>match P.underlying f.type,a4n P (k+1) fs with
  |some d,some ds=>if f.name≠ "_" /\f.offset=k/\zV d=true then some (d::ds) else none
  |_,_=>none
def a4o(P:Program)(t:TypeId):Option (List TypeDesc):=
 match P.underlying t with
 |some (.struct fs)=>if P.eqGuardType P.depth t=false/\P.stoodInHeld t=false then a4n P 0 fs.toList else none
 |_=>none
def a8j:TypeDesc->D->Bool
 |.int _,.int _ _=>true
 |.string,.str _=>true
 |.bool,.bool _=>true
 |_,_=>false
def a0H:List TypeDesc->List D->Bool
 |[],[]=>true
 |d::ds,x::xs=>a8j d x&&a0H ds xs
 |_,_=>false
def c8J:UnOp->D->Option D
 |.neg,.int k n=>some (.int k (k.wrap (0-n)))
 |.not,.bool b=>some (.bool !b)
 |_,_=>none
def overwrite{α:Type}(cells:List α)(off:Nat)(vs:List α):List α:=cells.take off++vs++cells.drop (off+vs.length)
def c0p(P:Program)(t:TypeId)(cells:List D):List (Nat×D)->Option (List D)
 |[]=>some cells
 |(i,v)::rest=>
  match aO P t i with
  |none=>none
  |some (off,u)=>if v.cells.length=P.cellsOf u/\off+v.cells.length<=cells.length then c0p P t (overwrite cells off v.cells) rest else none
def isD:DV->Option D
 |.d x=>some x
 |_=>none
def zW:List DV->Option (List D)
 |[]=>some []
 |.d x::l=>match zW l with
  |some ds=>some (x::ds)
  |none=>none
 |_::_=>none
def DV.cell:DV->Bool
 |.d x=>x.one
 |.it _=>false
 |.cY _=>false
 |.ag _=>false
 |_=>true
def c0q:DV->Bool
 |.a0E _=>false
 |_=>true
def xD:DV->Option (List DV)
 |.d y=>some (y.cells.map .d)
 |.ptr k o=>some [.ptr k o]
 |.ep cs=>some [.ep cs]
 |.mp k=>some [.mp k]
 |.fn f=>some [.fn f]
 |.clo f cs=>some [.clo f cs]
 |.ag cs=>if cs.all c0q then some cs else none
 |.rQ=>some [.rQ]
 |_=>none
def c0r:DV->Bool
 |.undef=>false
 |.a0E _=>false
 |c=>c.cell
def takeA(cs:List DV):Option DV:=match zW cs with
 |some ds=>some (.d (.agg ds))
 |none=>if cs.all c0r then some (.ag cs) else none
def b3U(P:Program)(t:TypeId)(cs:List DV):Option DV:=
 match P.underlying t with
 |some d=>if qU d then(if P.cellsOf t<=cs.length then takeA (cs.take (P.cellsOf t)) else none) else cs.head?
 |none=>none
def a3J(G:GT)(st:St):List (Nat×Operand)->Option (List (Nat×D))
 |[]=>some []
 |(i,x)::l=>match st.eval G x,a3J G st l with
  |.d y,some ds=>some ((i,y)::ds)
  |_,_=>none
def a0W(G:GT)(st:St):List (Nat×Operand)->Option (List (Nat×List DV))
 |[]=>some []
 |(i,x)::l=>match xD (st.eval G x),a0W G st l with
  |some y,some ds=>some ((i,y)::ds)
  |_,_=>none
def b1h(P:Program)(t:TypeId)(cells:List DV):List (Nat×List DV)->Option (List DV)
 |[]=>some cells
 |(i,v)::rest=>
  match aO P t i with
  |none=>none
  |some (off,u)=>if v.length=P.cellsOf u/\off+v.length<=cells.length then b1h P t (overwrite cells off v) rest else none
def xE:Operand->OA
 |.tmp s=>.al (.t s)
 |_=>.no
def idx(x:D)(n:Nat):Option Nat:=
 match x with
 |.int _ i=>if 0<=i/\i<n then some i.toNat else none
 |_=>none
def bound(x:D)(n:Nat):Option Nat:=
 match x with
 |.int _ i=>if 0<=i/\i<=n then some i.toNat else none
 |_=>none
def jR(G:GT)(st:St)(x:Option Operand)(d2B n:Nat):Option Nat:=
 match x with
 |none=>some d2B
 |some y=>match st.eval G y with
  |.d z=>bound z n
  |_=>none
structure Out where
 v:DV
 act:OA
 st:St
def findKeyD(k:D):List (D×D)->Option (Option D)
 |[]=>some none
 |(k',v)::r=>match b5Y k k' with
  |some true=>some (some v)
  |some false=>findKeyD k r
  |none=>none
end Go.VM
namespace Go.VM
open Go Go.RowKit
section
variable (P:Program) (G:GT)
def uQ(v:DV)(a:OA):OA:=
 match v with
 |.d (.sl _)=>a
 |_=>.no
def a4p(x:Operand)(st:St):Option Out:=some ⟨st.eval G x,uQ (st.eval G x) (xE x),st⟩
def b5Z(c a b:Operand)(st:St):Option Out:=
 match st.eval G c with
 |.d (.bool t)=>some ⟨if t then st.eval G a else st.eval G b,.no,st⟩
 |_=>none
def b2Z(dst:Option Tmp)(e:TypeId)(st:St):Option Out:=
 match dst,mF P e with
 |some d,some cs=>if d<100000 then some ⟨.ptr d 0,.no,jQ st d (.cells (cs.map .d))⟩ else none
 |some d,none=>
  match c4Q P e with
  |some cs=>if d<100000 then some ⟨.ptr d 0,.no,jQ st d (b5X cs)⟩ else none
  |none=>none
 |_,_=>none
def e0P(dst:Option Tmp)(x:Operand)(st:St):Option Out:=
 match dst,xD (st.eval G x)with
 |some d,some cs=>if decide (d<100000)&&(cs.all λc=> !mentions d c) then some ⟨.ptr d 0,.no,jQ st d (.cells cs)⟩ else none
 |_,_=>none
def a8k(fn:Fn)(first captured:Array Operand)(st:St):Option Out:=
 match fn with
 |.func f=>if first.isEmpty then some ⟨if captured.isEmpty then .fn f else .clo f (captured.toList.map (st.eval G)),.no,st⟩ else none
 |_=>none
def dV(t:TypeId):Bool:=
 match P.underlying t with
 |some (.struct fs)=>fs.toList.all λf=>(P.info? f.type).isSome
 |_=>false
def a8l(t:TypeId)(parts:Array (Nat×Operand))(st:St):Option Out:=
 match c4R P t,a0W G st parts.toList with
 |some z,some ps=>(b1h P t z ps).map λcs=>⟨.ag cs,.no,st⟩
 |_,_=>none
def a9V(t:TypeId)(parts:Array (Nat×Operand))(st:St):Option Out:=
 if dV P t then
  match mF P t,a3J G st parts.toList with
  |some z,some ps=>(c0p P t z ps).map λcs=>⟨.d (.agg cs),.no,st⟩
  |_,_=>a8l P G t parts st
 else none
def kD(e:TypeId):Bool:=
 match P.info? e with
 |some i=>decide (0<i.size)&&(match i.zero with|some z=>z.cells.size==i.size|none=>false)
 |none=>false
def uR(t:TypeId)(len:Nat)(parts:Array (Nat×Operand))(st:St):Option Out:=
 match jH P t,a3J G st parts.toList with
 |some e,some ps=>
  if kD P e&&(ps.map (·.1)==List.range len)&&(ps.all λp=>p.2.cells.length==P.cellsOf e)&&decide (len*P.cellsOf e<=2 ^ 24) then
   some ⟨.d (.sl (ps.map λp=>p.2.cells)),.fresh e,st⟩
  else none
 |_,_=>none
def b3V(t:TypeId)(x:Operand)(st:St):Option Out:=
 match st.eval G x with
 |.ptr k off=>
  match getKey k st.H with
  |some (.cells cs)=>(b3U P t (cs.drop off)).map λy=>⟨y,uQ y (.al (.c k off)),st⟩
  |_=>none
 |.ep cs=>(takeD P t cs).map λy=>⟨.d y,.no,st⟩
 |_=>none
def tY(t:TypeId)(a x:Operand)(st:St):Option Out:=
 match st.eval G a,xD (st.eval G x)with
 |.ptr k off,some ys=>
  match getKey k st.H with
  |some (.cells cs)=>
   if ys.length=P.cellsOf t/\P.cellsOf t≠0/\off+ys.length<=cs.length then
    some ⟨.cY [],.no,{st with H:=cE k (.cells (overwrite cs off ys)) st.H,own:=if (st.eval G x).cell then gH (.c k off) (uQ (st.eval G x) (xE x)) st.own else dropKey k st.own}⟩
   else none
  |_=>none
 |_,_=>none
def xR(x:Operand)(st:St):Option Out:=
 match st.eval G x with
 |.ptr k off=>some ⟨.ptr k off,.no,st⟩
 |.ep cs=>some ⟨.ep cs,.no,st⟩
 |.fn f=>some ⟨.fn f,.no,st⟩
 |.clo f cs=>some ⟨.clo f cs,.no,st⟩
 |_=>none
def d5p(op:BinOp)(t:TypeId)(a b:D):Option D:=
 match a,b with
 |.bool x,.bool y=>
  match P.underlying t,op with
  |some .bool,.eql=>some (.bool (x==y))
  |some .bool,.neq=>some (.bool !(x==y))
  |_,_=>none
 |.agg xs,.agg ys=>
  match a4o P t with
  |some ds=>
   if a0H ds xs then
    match op,a1q xs ys with
    |.eql,some r=>some (.bool r)
    |.neq,some r=>some (.bool !r)
    |_,_=>none
   else none
  |none=>none
 |a,b=>e0O op a b
def c8K(op:BinOp)(t:TypeId)(x y:Operand)(st:St):Option Out:=
 match st.eval G x,st.eval G y with
 |.d a,.d b=>(d5p P op t a b).map λc=>⟨.d c,.no,st⟩
 |_,_=>none
def c2f:Operand->Bool
 |.const (.slice none 0 0)=>true
 |_=>false
def a2a(op:BinOp)(t:TypeId)(x:Operand)(st:St):Option Out:=
 match P.underlying t,op,st.eval G x with
 |some (.slice _),.eql,.d (.sl es)=>some ⟨if es.length=0 then .rQ else .d (.bool false),.no,st⟩
 |some (.slice _),.neq,.d (.sl es)=>some ⟨if es.length=0 then .rQ else .d (.bool true),.no,st⟩
 |some (.slice _),.eql,.d .aE=>some ⟨.rQ,.no,st⟩
 |some (.slice _),.neq,.d .aE=>some ⟨.rQ,.no,st⟩
 |_,_,_=>none
def b6a(op:BinOp)(t:TypeId)(x y:Operand)(st:St):Option Out:=if c2f y then a2a P G op t x st else c8K P G op t x y st
def vUn(op:UnOp)(x:Operand)(st:St):Option Out:=
 match st.eval G x with
 |.d a=>(c8J op a).map λc=>⟨.d c,.no,st⟩
 |_=>none
def zX:List (List D)->Option (List UInt8)
 |[]=>some []
 |[.int .u8 n]::l=>(zX l).map λbs=>UInt8.ofNat n.toNat::bs
 |_=>none
def d2C(e:TypeId):Bool:=
 match P.underlying e with
 |some (.int .u8)=>true
 |_=>false
def d1f(src dst:TypeId)(a:D):Option D:=
 match P.underlying src,P.underlying dst,a with
 |some _,some (.int k),.int _ n=>some (.int k (k.wrap n))
 |some _,some .string,.str s=>some (.str s)
 |some (.slice e),some .string,.sl es=>if d2C P e then(zX es).map .str else none
 |some (.slice e),some .string,.aE=>if d2C P e then some (.str []) else none
 |_,_,_=>none
def b6b(src dst:TypeId)(x:Operand)(st:St):Option Out:=
 match st.eval G x with
 |.d a=>(d1f P src dst a).map λc=>⟨.d c,.no,st⟩
 |_=>none
def d5q(t:TypeId):Option D:=((P.info? t).bind (·.zero)).bind λz=>isD (ofConst z)
def mapOf(t:TypeId):Option (TypeId×TypeId):=
 match P.underlying t with
 |some (.map k e)=>(match P.underlying k with|some d=>if zV d then some (k,e) else none|none=>none)
 |_=>none
def a1r(t:TypeId)(k:D):Bool:=
 match P.underlying t with
 |some d=>a8j d k
 |none=>false
def e0Q(t:TypeId)(m k:Operand)(ok:Bool)(st:St):Option Out:=
 match mapOf P t,st.eval G m,st.eval G k with
 |some (kt,e),.mp key,.d kk=>
  match getKey key st.H,d5q P e,a1r P kt kk with
  |some (.map es),some z,true=>(findKeyD kk es).map λr=>⟨if ok then .cY [r.getD z,.bool r.isSome] else .d (r.getD z),.no,st⟩
  |_,_,_=>none
 |_,_,_=>none
def a2b(x:Operand)(i:Nat)(st:St):Option Out:=
 match st.eval G x with
 |.cY ds=>(ds[i]?).map λy=>⟨.d y,.no,st⟩
 |_=>none
def a9W(t:TypeId)(x:Operand)(i:Nat)(st:St):Option Out:=
 match st.eval G x,aO P t i with
 |.d (.agg cs),some (off,u)=>(takeD P u (cs.drop off)).map λy=>⟨.d y,.no,st⟩
 |_,_=>none
def a9X(t:TypeId)(x i:Operand)(st:St):Option Out:=
 match P.underlying t,st.eval G x,st.eval G i with
 |some .string,.d (.str s),.d n=>(idx n s.length).bind λj=>(s[j]?).map λb=>⟨.d (.int .u8 b.toNat),.no,st⟩
 |some (.array len e),.d (.agg cs),.d n=>(idx n len).bind λj=>(takeD P e (cs.drop (j*P.cellsOf e))).map λy=>⟨.d y,.no,st⟩
 |_,_,_=>none
def uS(t:TypeId)(x i:Operand)(st:St):Option Out:=
 match P.underlying t,st.eval G x,st.eval G i with
 |some (.slice e),.d (.sl es),.d n=>(idx n es.length).bind λj=>(es[j]?).bind λcs=>if cs.length=P.cellsOf e then some ⟨.ep cs,.no,st⟩ else none
 |some (.array len e),.ptr k off,.d n=>if P.cellsOf e=0 then none else(idx n len).map λj=>⟨.ptr k (off+j*P.cellsOf e),.no,st⟩
 |some (.array len e),.ep cs,.d n=>if P.cellsOf e=0 then none else(idx n len).map λj=>⟨.ep (cs.drop (j*P.cellsOf e)),.no,st⟩
 |_,_,_=>none
def uT(t:TypeId)(x:Operand)(i:Nat)(st:St):Option Out:=
 match aO P t i with
 |some (off,u)=>
  if P.cellsOf u=0 then none else
  match st.eval G x with
  |.ptr k o=>some ⟨.ptr k (o+off),.no,st⟩
  |.ep cs=>some ⟨.ep (cs.drop off),.no,st⟩
  |_=>none
 |none=>none
def a9Y(t:TypeId)(x:Operand)(lo hi mx:Option Operand)(st:St):Option Out:=
 match P.underlying t,st.eval G x,mx with
 |some .string,.d (.str s),none=>(jR G st hi s.length s.length).bind λh=>(jR G st lo 0 h).map λl=>⟨.d (.str ((s.take h).drop l)),.no,st⟩
 |some (.slice e),.d (.sl es),none=>
  if P.cellsOf e≠0/\(es.all λc=>c.length==P.cellsOf e)=true then
   (jR G st hi es.length es.length).bind λh=>(jR G st lo 0 h).map λl=>⟨.d (.sl ((es.take h).drop l)),.no,st⟩
  else none
 |some (.slice e),.d .aE,none=>if P.cellsOf e≠0 then(jR G st hi 0 0).bind λh=>(jR G st lo 0 h).map λ_=>⟨.d .aE,.no,st⟩ else none
 |some (.slice e),.d (.sl _),some m=>if P.cellsOf e≠0/\lo.isNone=true/\jR G st hi 1 0=some 0/\jR G st (some m) 1 0=some 0 then some ⟨.d .aE,.no,st⟩ else none
 |some (.slice e),.d .aE,some m=>if P.cellsOf e≠0/\lo.isNone=true/\jR G st hi 1 0=some 0/\jR G st (some m) 1 0=some 0 then some ⟨.d .aE,.no,st⟩ else none
 |_,_,_=>none
def c2g(dst:Option Tmp)(t:TypeId)(x:Operand)(st:St):Option Out:=
 match dst,P.underlying t,st.eval G x with
 |some d,some .string,.d (.str s)=>if d<100000 then some ⟨.it d,.no,jQ st d (.iter s 0)⟩ else none
 |_,_,_=>none
def d1g(it:Operand)(isString:Bool)(st:St):Option Out:=
 match st.eval G it,isString with
 |.it k,true=>
  match getKey k st.H with
  |some (.iter s pos)=>
   if pos<s.length then
    some ⟨.cY [.bool true,.int .i64 pos,.int .i32 (Utf8.decode ⟨s.toArray⟩ pos).1],.no,{st with H:=cE k (.iter s (pos+(Utf8.decode ⟨s.toArray⟩ pos).2)) st.H}⟩
   else some ⟨.cY [.bool false],.no,st⟩
  |_=>none
 |_,_=>none
def d2D(t:TypeId)(x:Operand)(st:St):Option Out:=
 match P.underlying t,st.eval G x with
 |some .string,.d (.str s)=>some ⟨.d (.int .i64 s.length),.no,st⟩
 |some (.slice _),.d (.sl es)=>some ⟨.d (.int .i64 es.length),.no,st⟩
 |some (.slice _),.d .aE=>some ⟨.d (.int .i64 0),.no,st⟩
 |_,_=>none
def jV(l:Loc):List (TypeId×List Loc)->Option (TypeId×List (TypeId×List Loc))
 |[]=>none
 |c::r=>if c.2.contains l then some (c.1,r) else(jV l r).map λ(e,r')=>(e,c::r')
def e0R:DV->Option (List (List D))
 |.d (.sl es)=>some es
 |.d .aE=>some []
 |_=>none
def c2h(t t':TypeId)(v:DV):Option (List (List D)):=
 if t=t' then e0R v else
 match P.underlying t',jH P t,v with
 |some .string,some e,.d (.str s)=>if d2C P e/\P.cellsOf e=1 then some (s.map λb=>[D.int .u8 b.toNat]) else none
 |_,_,_=>none
def a5a(t t':TypeId)(s x:Operand)(st:St):Option Out:=
 match jH P t,c2h P t t' (st.eval G x)with
 |some e,some ys=>
  if kD P e=true/\(ys.all λc=>c.length==P.cellsOf e)=true then
   match st.eval G s,s with
   |.d .aE,_=>if ys.length*(P.bytesOf e+1)<=140737488355328 then some ⟨.d (.sl ys),.fresh e,st⟩ else none
   |.d (.sl xs),.tmp i=>
    match jV (.t i) st.own with
    |some (e',gI)=>
     if e'=e/\(xs.all λc=>c.length==P.cellsOf e)=true/\(xs.length+ys.length)*(P.bytesOf e+1)<=140737488355328 then
      some ⟨.d (.sl (xs++ys)),.fresh e,{st with own:=gI}⟩
     else none
    |none=>none
   |_,_=>none
  else none
 |_,_=>none
def d2E(x y:Operand)(st:St):Option Out:=
 match st.eval G x,st.eval G y with
 |.d (.int k a),.d (.int _ b)=>some ⟨.d (.int k (if b>a then b else a)),.no,st⟩
 |_,_=>none
def d2F(x y:Operand)(st:St):Option Out:=
 match st.eval G x,st.eval G y with
 |.d (.int k a),.d (.int _ b)=>some ⟨.d (.int k (if b<a then b else a)),.no,st⟩
 |_,_=>none
def uU(b:Builtin)(args:List Operand)(ts:List TypeId)(st:St):Option Out:=
 match b,args,ts with
 |.len,[x],[t]=>d2D P G t x st
 |.append,[s,x],[t,t']=>a5a P G t t' s x st
 |.max,[x,y],_=>d2E G x y st
 |.min,[x,y],_=>d2F G x y st
 |_,_,_=>none
def pB(o:Oper)(st:St):Option Out:=
 match o.op with
 |.move x=>a4p G x st
 |.assign x=>a4p G x st
 |.pick c a b=>b5Z G c a b st
 |.alloc e=>b2Z P o.dst e st
 |.box _ x=>e0P G o.dst x st
 |.build t parts=>a9V P G t parts st
 |.buildSlice t len parts=>uR P G t len parts st
 |.load t x=>b3V P G t x st
 |.store t a x=>tY P G t a x st
 |.nilCheck x=>xR G x st
 |.binOp op t x y _=>b6a P G op t x y st
 |.unOp op _ x=>vUn G op x st
 |.convert src dst x=>b6b P G src dst x st
 |.makeFunc fn first captured=>a8k G fn first captured st
 |.extract x i=>a2b G x i st
 |.field t x i=>a9W P G t x i st
 |.index t x i=>a9X P G t x i st
 |.indexAddr t x i=>uS P G t x i st
 |.fieldAddr t x i=>uT P G t x i st
 |.slice t x lo hi mx=>a9Y P G t x lo hi mx st
 |.range t x=>c2g P G o.dst t x st
 |.next it b=>d1g G it b st
 |.call {callee:=.builtin b,args,argTypes}=>uU P G b args.toList argTypes.toList st
 |_=>none
def kT(o:Oper)(st:St):Option (FuncId×List D):=
 match o.op with
 |.call {callee:=.value x,args, .. }=>
  match st.eval G x,zW (args.toList.map (st.eval G))with
  |.fn f,some ds=>some (f,ds)
  |_,_=>none
 |_=>none
def dY(o:Oper)(st:St):Option (FuncId×List DV):=
 match o.op with
 |.call {callee:=.value x,args, .. }=>
  match st.eval G x with
  |.fn f=>some (f,args.toList.map (st.eval G))
  |.clo f cs=>some (f,args.toList.map (st.eval G)++cs)
  |_=>none
 |_=>none
def a6E:Operand->Option Loc
 |.tmp t=>some (.t t)
 |_=>none
def oF(o:Oper):List (Option Loc):=
 match o.op with
 |.call {args, .. }=>args.toList.map a6E
 |_=>[]
def wR(ops:Array Oper)(tmps:List DV)(j:Nat):DV:=(((ops[j]?).bind (·.dst)).bind (tmps[·]?)).getD (.cY [])
def gB(o:Oper)(ops:Array Oper)(tmps:List DV):Option Bool:=
 match o.guard with
 |none=>some true
 |some (j,want)=>
  match wR ops tmps j with
  |.undef=>none
  |.rQ=>none
  |.d (.bool b)=>some (b==want)
  |_=>some false
end
end Go.VM
namespace Go.VM
open Go Go.RowKit
structure dU where
 f5z:Nat->Prop
 home:Nat->Nat
instance:CoeFun dU λ_=>Nat->Prop:=⟨dU.f5z⟩
inductive V (R:Nat->Nat->Prop) (w:World):Value->D->Prop
 |int (k:IntKind) (n:Int):V R w (.int k n) (.int k n)
 |bool (b:Bool):V R w (.bool b) (.bool b)
 |str (s:List UInt8):V R w (.string ⟨s.toArray⟩) (.str s)
 |aE (ao:Option Addr):V R w (.slice ao 0 0) .aE
 |emp (ao:Option Addr) (cap:Nat):V R w (.slice ao 0 cap) (.sl [])
 |sl (b o n cap size:Nat) (es:List (List D)) (f:Nat->Nat->Value):n=es.length->n<=cap->0<size->(∀e∈es,e.length=size)->
   (∀(i j:Nat),i<n->j<size->R b (o+i*size+j)/\w.cell? ⟨b,o+i*size+j,none⟩=some (f i j))->
   (∀(i j:Nat)(e:List D)(d:D),es[i]? =some e->e[j]? =some d->d.one=true)->
   (∀(i j:Nat)(e:List D)(d:D),es[i]? =some e->e[j]? =some d->V R w (f i j) d)->V R w (.slice (some ⟨b,o,none⟩) n cap) (.sl es)
 |agg (cs:Array Value) (ds:List D):cs.size=ds.length->(∀(i:Nat)(d:D),ds[i]? =some d->d.one=true)->(∀(i:Nat)(d:D),ds[i]? =some d->V R w (cs.getD i undef) d)->V R w (.agg cs) (.agg ds)
def Run(R:Nat->Nat->Prop)(w:World)(b o:Nat)(cs:List D):Prop:=
 ∀(j:Nat)(d:D),cs[j]? =some d->d.one=true/\R b (o+j)/\∃v,w.cell? ⟨b,o+j,none⟩=some v/\V R w v d
variable{v:Value}
theorem c0s(h:c2e v=true):v=.pointer none:=by
 unfold c2e at h;split at h
 .rfl
 .cases h
inductive TV (R:Nat->Nat->Prop) (μ:Nat->Nat) (w:World):Value->DV->Prop
 |d (v:Value) (x:D):V R w v x->TV R μ w v (.d x)
 |undef (v:Value):TV R μ w v .undef
 |ptr (k off:Nat):TV R μ w (.pointer (some ⟨μ k,off,none⟩)) (.ptr k off)
 |ep (b o:Nat) (cs:List D):Run R w b o cs->TV R μ w (.pointer (some ⟨b,o,none⟩)) (.ep cs)
 |mp (k:Nat):TV R μ w (.map (some (μ k))) (.mp k)
 |it (k:Nat):TV R μ w (.pointer (some ⟨μ k,0,none⟩)) (.it k)
 |cY (vs:Array Value) (ds:List D):vs.size=ds.length->(∀(i:Nat)(d:D),ds[i]? =some d->V R w (vs.getD i Go.undef) d)->TV R μ w (.tuple vs) (.cY ds)
 |fn (f:FuncId):TV R μ w (.func (.func f) #[] #[]) (.fn f)
 |rQ (b:Bool):TV R μ w (.bool b) .rQ
 |a0E (T:TypeId):TV R μ w (.pointer none) (.a0E T)
 |clo (f:FuncId) (vs:Array Value) (cs:List DV):vs.size=cs.length->(∀(i:Nat)(c:DV),cs[i]? =some c->TV R μ w (vs.getD i Go.undef) c)->TV R μ w (.func (.func f) #[] vs) (.clo f cs)
 |ag (vs:Array Value) (cs:List DV):vs.size=cs.length->(∀i,i<cs.length->(vs.getD i Go.undef).oneCell'=true)->(∀(i:Nat)(c:DV),cs[i]? =some c->c.cell=true)->(∀(i:Nat)(c:DV),cs[i]? =some c->TV R μ w (vs.getD i Go.undef) c)->TV R μ w (.agg vs) (.ag cs)
def e6T(v:Value):Prop:=v=.slice none 0 0\/∃ao n cap,v=.slice ao n cap/\cap≠0
def a5b(T:TypeId)(cs:List DV):Prop:=∀T',DV.a0E T'∈cs->T=T'
theorem a5b.c4S{T:TypeId}{cs:List DV}(h:cs.all c0q=true):a5b T cs:=λT' hm=>by have:=g3c.1 h _ hm;cases this
def mV(R:Nat->Nat->Prop)(μ:Nat->Nat)(w:World)(b:Nat):bH->Prop
 |.cells cs=>∃vs T,w.heap[b]? =some (.cells vs T (0,0))/\vs.size=cs.length/\(∀(i:Nat)(d:DV),cs[i]? =some d->d.cell=true/\TV R μ w (vs.getD i undef) d)/\a5b T cs
 |.map es=>∃e0S clock,w.heap[b]? =some (.map e0S clock)/\e0S.size=es.length/\∀(i:Nat)(k v:D),es[i]? =some (k,v)->V R w ((e0S.getD i default).key) k/\V R w ((e0S.getD i default).val) v
 |.iter s pos=>w.heap[b]? =some (.stringIter ⟨s.toArray⟩ pos)
 |.bld T u es=>∃v0 v1 T',w.heap[b]? =some (.cells #[v0,v1] T' (0,0))/\(u=false->T'=T/\v1=.slice none 0 0)/\v0=(if u then .pointer (some ⟨b,0,none⟩) else .pointer none)/\V R w v1 (.sl es)/\e6T v1
def bQ:Value->Option Nat
 |.slice (some a) _ cap=>if cap=0 then none else some a.block
 |_=>none
def rX(P:Program)(base:dU)(R:Nat->Nat->Prop)(w:World)(e:TypeId)(v:Value):Prop:=
 (∃ao,v=.slice ao 0 0)\/
 ∃g n cap cur,v=.slice (some ⟨g,0,none⟩) n cap/\base g/\w.heap[g]? =some (.cells cur e (0,0))/\n<=cap/\cap<=maxLen/\cur.size=cap*P.cellsOf e/\∀off,n*P.cellsOf e<=off-> ¬R g off
def cX(a:Act)(w:World)(μ:Nat->Nat):Loc->Option Value
 |.t i=>a.tmps[i]?
 |.c k off=>w.cell? ⟨μ k,off,none⟩
structure a5c (P:Program) (base:dU) (R:Nat->Nat->Prop) (μ:Nat->Nat) (st:St) (a:Act) (w:World) (c:TypeId×List Loc) (v:Value):Prop where
 eR:∀l∈c.2,∀u,cX a w μ l=some u->u=v
 own:rX P base R w c.1 v
 keys:∀k o,getKey k st.H=some o->bQ v≠some (μ k)
def a5Z(v v':Value):Prop:=∀g,bQ v=some g->bQ v'≠some g
structure a2c (P:Program) (base:dU) (R:Nat->Nat->Prop) (μ:Nat->Nat) (st:St) (a:Act) (w:World) (vs:List Value):Prop where
 len:vs.length=st.own.length
 one:∀(i:Nat)(c:TypeId×List Loc)(v:Value),st.own[i]? =some c->vs[i]? =some v->a5c P base R μ st a w c v
 apart:vs.Pairwise a5Z
def a8U(G:GT)(base:dU)(R:Nat->Nat->Prop)(w:World):Prop:=∀g cs,G g=some cs->Run R w g 0 cs/\ ¬base g/\∃arr T fr,w.heap[g]? =some (.cells arr T fr)/\arr.size=cs.length
structure Rel (P:Program) (G:GT) (bs:dU) (R:Nat->Nat->Prop) (μ:Nat->Nat) (st:St) (a:Act) (w:World):Prop where
 defers:a.defers=[]
 size:a.tmps.size=st.tmps.length
 tmps:∀(i:Nat)(v:Value)(d:DV),a.tmps[i]? =some v->st.tmps[i]? =some d->TV R μ w v d
 mE:∀k o,getKey k st.H=some o->bs (μ k)/\(∀off, ¬R (μ k) off)/\mV R μ w (μ k) o
 inj:∀k k' o o',getKey k st.H=some o->getKey k' st.H=some o'->μ k=μ k'->k=k'
 eR:∀c∈st.own,∀k off,Loc.c k off∈c.2->∃o,getKey k st.H=some o
 own:∃vs,a2c P bs R μ st a w vs
 wS:a8U G bs R w
 rY:∀b o,R b o->b<w.heap.size
 base:∀b,w.heap.size<=b->bs b
 pass:∀k,100000<=k->μ k=bs.home k
structure a2d (base:dU) (w w':World):Prop where
 os:w'.os=w.os
 tape:w'.tape=w.tape
 output:w'.output=w.output
 size:w.heap.size<=w'.heap.size
 block:∀k, ¬base k->w'.heap[k]? =w.heap[k]?
theorem a2d.refl(base:dU)(w:World):a2d base w w:=⟨rfl,rfl,rfl,g3p _,λ_ _=>rfl⟩
theorem a2d.trans{base:dU}{a b c:World}(h:a2d base a b)(k:a2d base b c):a2d base a c:=
 ⟨k.os.trans h.os,k.tape.trans h.tape,k.output.trans h.output,Nat.le_trans h.size k.size,λi hi=>(k.block i hi).trans (h.block i hi)⟩
variable{base mM:dU}{w w':World}
theorem a2d.mono(h:a2d base w w')(hb:∀k,base k->mM k):a2d mM w w':=⟨h.os,h.tape,h.output,h.size,λk hk=>h.block k λhx=>hk (hb k hx)⟩
theorem a2d.drew{base:dU}{a w:World}(h:a2d base a w):a2d base a w.drew:=⟨h.os,h.tape,h.output,h.size,h.block⟩
theorem a2d.alloc{base:dU}{a w:World}(h:a2d base a w)(hB:∀b,w.heap.size<=b->base b)(o:Obj):a2d base a (w.alloc o):=
 h.trans ⟨rfl,rfl,rfl,by simp,λk hk=>by
  show(w.heap.push o)[k]? =_
  rw[Array.getElem?_push,if_neg λe=>hk (hB k (by omega))]⟩
abbrev a0X(n:Nat):dU:=⟨λk=>n<=k,λ_=>0⟩
variable{n:Nat}
theorem a2d.below(h:a2d (a0X n) w w'):Below n w w':=⟨h.os,h.tape,h.output,h.size,λk hk=>h.block k (by simpa[a0X]using hk)⟩
theorem a2d.d5r(h:Below n w w'):a2d (a0X n) w w':=⟨h.os,h.tape,h.output,h.size,λk hk=>h.block k (by simpa[a0X]using hk)⟩
structure Step (base:dU) (R:Nat->Nat->Prop) (w:World) (R':Nat->Nat->Prop) (w':World):Prop where
 below:a2d base w w'
 mono:∀b o,R b o->R' b o
 new:∀b o,R' b o-> ¬R b o->base b
 cells:∀b o,R b o->w'.cell? ⟨b,o,none⟩=w.cell? ⟨b,o,none⟩
theorem Step.refl(base:dU)(R:Nat->Nat->Prop)(w:World):Step base R w R w:=⟨a2d.refl _ _,λ_ _ h=>h,λ_ _ h h'=>absurd h h',λ_ _ _=>rfl⟩
theorem Step.trans{base:dU}{R R' R'':Nat->Nat->Prop}{w w' w'':World}(h:Step base R w R' w')(h':Step base R' w' R'' w''):Step base R w R'' w'':=
 ⟨h.below.trans h'.below,λb o hr=>h'.mono b o (h.mono b o hr),λb o hr hn=>by
  by_cases hm:R' b o
  .exact h.new b o hm hn
  .exact h'.new b o hr hm,λb o hr=>(h'.cells b o (h.mono b o hr)).trans (h.cells b o hr)⟩
def CS(P:Program)(G:GT)(f:FuncId)(ds:List D)(r:DV)(own:Option TypeId):Prop:=
 ∀(w:World)(R:Nat->Nat->Prop)(args:Array Value),a8U G (a0X w.heap.size) R w->(∀b o,R b o->b<w.heap.size)->args.size=ds.length->
  (∀(i:Nat)(d:D),ds[i]? =some d->V R w (args.getD i undef) d)->
  Calls P f args w λe w'=>∃v R',e=.returned v/\(∀μ,TV R' μ w' v r)/\Step (a0X w.heap.size) R w R' w'/\(∀b o,R' b o->b<w'.heap.size)/\
   (∀e,own=some e->rX P (a0X w.heap.size) R' w' e v)
def SW(P:Program)(G:GT)(c:Code)(st:St)(Q:Exit->St->Prop):Prop:=
 ∀base R μ a w,Rel P G base R μ st a w->c.wp P (λe a' w'=>∃st' R' μ',Q e st'/\Rel P G base R' μ' st' a' w'/\Step base R w R' w') a w
variable{d:D}{R R':Nat->Nat->Prop}
theorem V.step(hm:∀b o,R b o->R' b o)(hc:∀b o,R b o->w'.cell? ⟨b,o,none⟩=w.cell? ⟨b,o,none⟩)(h:V R w v d):V R' w' v d:=by
 induction h with
 |int k n=>exact .int k n
 |bool b=>exact .bool b
 |str s=>exact .str s
 |aE ao=>exact .aE ao
 |emp ao cap=>exact .emp ao cap
 |sl b o n cap size es f h1 h2 h3 h4 h5 h6 _ ih=>exact .sl b o n cap size es f h1 h2 h3 h4 (λi j hi hj=>⟨hm _ _ (h5 i j hi hj).1,(hc _ _ (h5 i j hi hj).1).trans (h5 i j hi hj).2⟩) h6 ih
 |agg cs ds h1 h2 _ ih=>exact .agg cs ds h1 h2 ih
theorem V.cA(hs:Step base R w R' w')(h:V R w v d):V R' w' v d:=h.step hs.mono hs.cells
theorem Run.cA{base:dU}{R R':Nat->Nat->Prop}{w w':World}(hs:Step base R w R' w'){b o:Nat}{cs:List D}(h:Run R w b o cs):Run R' w' b o cs:=by intro j d hj;obtain⟨h1,h2,v,h3,h4⟩:=h j d hj;exact⟨h1,hs.mono _ _ h2,v,(hs.cells _ _ h2).trans h3,h4.cA hs⟩
theorem TV.cA{base:dU}{R R':Nat->Nat->Prop}{μ:Nat->Nat}{w w':World}(hs:Step base R w R' w'){v:Value}{d:DV}(h:TV R μ w v d):TV R' μ w' v d:=by
 induction h with
 |d v x h=>exact .d v x (h.cA hs)
 |undef v=>exact .undef v
 |ptr k off=>exact .ptr k off
 |ep b o cs h=>exact .ep b o cs (h.cA hs)
 |mp k=>exact .mp k
 |it k=>exact .it k
 |cY vs ds h1 h2=>exact .cY vs ds h1 λi d hi=>(h2 i d hi).cA hs
 |fn f=>exact .fn f
 |rQ b=>exact .rQ b
 |a0E T=>exact .a0E T
 |clo f vs cs h1 _ ih=>exact .clo f vs cs h1 ih
 |ag vs cs h1 h2 h3 _ ih=>exact .ag vs cs h1 h2 h3 ih
theorem uC{key:Nat}:∀{cs:List DV},pP key cs=false->∀(i:Nat)(c:DV),cs[i]? =some c->mentions key c=false
 |[],_,i,c,h=>by simp at h
 |d::r,hm,i,c,h=>by
  simp only[pP,Bool.or_eq_false_iff]at hm;cases i with
  |zero=>simp at h;subst h;exact hm.1
  |succ i=>exact uC hm.2 i c (by simpa using h)
theorem TV.e4J{μ μ':Nat->Nat}{key:Nat}(hμ:∀k,k≠key->μ' k=μ k){d:DV}(h:TV R μ w v d)(hm:mentions key d=false):TV R μ' w v d:=by
 induction h with
 |d v x h=>exact .d v x h
 |undef v=>exact .undef v
 |ptr k off=>
  have:k≠key:=by simpa[mentions]using hm
  rw[<-hμ k this];exact .ptr k off
 |ep b o cs h=>exact .ep b o cs h
 |mp k=>
  have:k≠key:=by simpa[mentions]using hm
  rw[<-hμ k this];exact .mp k
 |it k=>
  have:k≠key:=by simpa[mentions]using hm
  rw[<-hμ k this];exact .it k
 |cY vs ds h1 h2=>exact .cY vs ds h1 h2
 |fn f=>exact .fn f
 |rQ b=>exact .rQ b
 |a0E T=>exact .a0E T
 |clo f vs cs h1 h2 ih=>simp only[mentions]at hm;exact .clo f vs cs h1 λi c hi=>ih i c hi (uC hm i c hi)
 |ag vs cs h1 h2 h3 h4 ih=>simp only[mentions]at hm;exact .ag vs cs h1 h2 h3 λi c hi=>ih i c hi (uC hm i c hi)
theorem a8U.cA{G:GT}{base:dU}{R R':Nat->Nat->Prop}{w w':World}(hs:Step base R w R' w')(h:a8U G base R w):a8U G base R' w':=λg cs hg=>by obtain⟨h1,h2,arr,T,fr,h3,h4⟩:=h g cs hg;exact⟨h1.cA hs,h2,arr,T,fr,by rw[hs.below.block g h2];exact h3,h4⟩
theorem a8U.up{G:GT}(h:a8U G base R w)(hb:∀k,mM k->base k):a8U G mM R w:=λg cs hg=>by obtain⟨h1,h2,h3⟩:=h g cs hg;exact⟨h1,λhx=>h2 (hb g hx),h3⟩
theorem V.b1i(h:V R w v d)(h1:d.one=true):v.oneCell'=true:=by cases h<;>first|rfl|(simp[D.one]at h1)
theorem V.d2G(h:V R w v d)(h1:d.one=true):v.cells=#[v]/\d.cells=[d]:=by cases h<;>first|exact⟨rfl,rfl⟩|(simp[D.one]at h1)
theorem V.cells{R:Nat->Nat->Prop}{w:World}{v:Value}{d:D}(h:V R w v d):v.cells.size=d.cells.length/\∀(i:Nat)(c:D),d.cells[i]? =some c->c.one=true/\V R w (v.cells.getD i undef) c:=by
 cases h with
 |agg cs ds h1 h2 h3=>exact⟨h1,λi c hi=>⟨h2 i c hi,h3 i c hi⟩⟩
 |int k n=>exact⟨rfl,λi c hi=>by cases i<;>simp[D.cells]at hi;subst hi;exact⟨rfl,.int k n⟩⟩
 |bool b=>exact⟨rfl,λi c hi=>by cases i<;>simp[D.cells]at hi;subst hi;exact⟨rfl,.bool b⟩⟩
 |str s=>exact⟨rfl,λi c hi=>by cases i<;>simp[D.cells]at hi;subst hi;exact⟨rfl,.str s⟩⟩
 |aE ao=>exact⟨rfl,λi c hi=>by cases i<;>simp[D.cells]at hi;subst hi;exact⟨rfl,.aE ao⟩⟩
 |emp ao cap=>exact⟨rfl,λi c hi=>by cases i<;>simp[D.cells]at hi;subst hi;exact⟨rfl,.emp ao cap⟩⟩
 |sl b o n cap size es f h1 h2 h3 h4 h5 h6 h7=>exact⟨rfl,λi c hi=>by cases i<;>simp[D.cells]at hi;subst hi;exact⟨rfl,.sl b o n cap size es f h1 h2 h3 h4 h5 h6 h7⟩⟩
end Go.VM
namespace Go.VM
open Go Go.RowKit
theorem a6a(k:Nat)(o:bH):∀H:List (Nat×bH),(getKey k H).isSome=true->getKey k (a1Z k o H)=some o
 |[],h=>by simp[getKey]at h
 |(k',o')::r,h=>by
  unfold a1Z;split
  .simp[getKey]
  .rename_i hk;simp only[getKey,hk,if_false]at h|-;exact a6a k o r h
theorem a9h{k k':Nat}(o:bH)(h:k≠k'):∀H:List (Nat×bH),getKey k' (a1Z k o H)=getKey k' H
 |[]=>rfl
 |(k1,o1)::r=>by
  unfold a1Z;split
  .rename_i h1;subst h1;simp[getKey,h]
  .simp[getKey,a9h o h r]
theorem a6b(k:Nat)(o:bH):∀H:List (Nat×bH),getKey k H=none->getKey k (oQ k o H)=some o
 |[],_=>by simp[oQ,getKey]
 |(k',o')::r,h=>by
  unfold oQ;split
  .simp[getKey]
  .simp only[getKey]at h|-;split at h
   .cases h
   .rename_i hk;rw[if_neg hk];exact a6b k o r h
theorem a0u{k k':Nat}(o:bH)(h:k≠k'):∀H:List (Nat×bH),getKey k' (oQ k o H)=getKey k' H
 |[]=>by simp[oQ,getKey,h]
 |(k1,o1)::r=>by
  unfold oQ;split
  .simp[getKey,h]
  .simp[getKey,a0u o h r]
variable{o:bH}{k k':Nat}{H:List (Nat×bH)}
theorem a9Z:getKey k (cE k o H)=some o:=by
 unfold cE;split
 .rename_i h;exact a6a k o H h
 .rename_i h;exact a6b k o H (by simpa using h)
theorem mW(o:bH)(h:k≠k')(H:List (Nat×bH)):getKey k' (cE k o H)=getKey k' H:=by
 unfold cE;split
 .exact a9h o h H
 .exact a0u o h H
theorem b3W{a b:Nat}(h:a≠b)(o o':bH):∀H:List (Nat×bH),oQ a o (oQ b o' H)=oQ b o' (oQ a o H)
 |[]=>by
  rcases Nat.lt_or_gt_of_ne h with h'|h'
  .simp[oQ,h',Nat.not_lt.2 (Nat.le_of_lt h')]
  .simp[oQ,h',Nat.not_lt.2 (Nat.le_of_lt h')]
 |(k,x)::r=>by
  by_cases h1:a<k<;>by_cases h2:b<k
  .rcases Nat.lt_or_gt_of_ne h with h'|h'
   .simp[oQ,h1,h2,h',Nat.not_lt.2 (Nat.le_of_lt h')]
   .simp[oQ,h1,h2,h',Nat.not_lt.2 (Nat.le_of_lt h')]
  .have:¬b<a:=by omega
   simp[oQ,h1,h2,this]
  .have:¬a<b:=by omega
   simp[oQ,h1,h2,this]
  .simp[oQ,h1,h2,b3W h o o' r]
theorem c4T{a b:Nat}(h:a≠b){o':bH}(ha:getKey a H=none)(hb:getKey b H=none):cE a o (cE b o' H)=cE b o' (cE a o H):=by
 have e1:cE b o' H=oQ b o' H:=by unfold cE;rw[hb];rfl
 have e2:cE a o H=oQ a o H:=by unfold cE;rw[ha];rfl
 rw[e1,e2];unfold cE;rw[a0u o' (Ne.symm h),a0u o h,ha,hb];exact b3W h o o' H
theorem jS(o:bH)(H:List (Nat×bH)):getKey k' (cE k o H)=if k=k' then some o else getKey k' H:=by
 split
 .rename_i h;subst h;exact a9Z
 .rename_i h;exact mW o h H
section
variable {P:Program} {G:GT} {base:dU} {R R':Nat->Nat->Prop} {μ:Nat->Nat} {st:St} {a:Act} {w w':World}
theorem mV.lt{b:Nat}{o:bH}(h:mV R μ w b o):b<w.heap.size:=by
 cases o with
 |cells cs=>obtain⟨vs,T,h,_⟩:=h;exact(g3i.1 h).1
 |map es=>obtain⟨vs,T,h,_⟩:=h;exact(g3i.1 h).1
 |iter s pos=>exact(g3i.1 (show w.heap[b]? =_ from h)).1
 |bld T u es=>obtain⟨v0,v1,T',h,_⟩:=h;exact(g3i.1 h).1
theorem mV.cA(hs:Step base R w R' w'){b:Nat}(hb:w'.heap[b]? =w.heap[b]?){o:bH}(h:mV R μ w b o):mV R' μ w' b o:=by
 cases o with
 |cells cs=>obtain⟨vs,T,h1,h2,h3,h4⟩:=h;exact⟨vs,T,hb.trans h1,h2,λi d hi=>⟨(h3 i d hi).1,(h3 i d hi).2.cA hs⟩,h4⟩
 |map es=>obtain⟨vs,T,h1,h2,h3⟩:=h;exact⟨vs,T,hb.trans h1,h2,λi k v hi=>⟨(h3 i k v hi).1.cA hs,(h3 i k v hi).2.cA hs⟩⟩
 |iter s pos=>exact hb.trans h
 |bld T u es=>obtain⟨v0,v1,T',h1,h2,h3,h4,h5⟩:=h;exact⟨v0,v1,T',hb.trans h1,h2,h3,h4.cA hs,h5⟩
variable{g i key:Nat}{v:Value}{e:TypeId}
theorem a6c(h:rX P base R w e v)(hg:bQ v=some g):
  ∃n cap cur,v=.slice (some ⟨g,0,none⟩) n cap/\base g/\w.heap[g]? =some (.cells cur e (0,0))/\n<=cap/\cap<=maxLen/\cur.size=cap*P.cellsOf e/\∀off,n*P.cellsOf e<=off-> ¬R g off:=by
 rcases h with⟨ao,rfl⟩|⟨g',n,cap,cur,rfl,h⟩
 .cases ao<;>simp[bQ]at hg
 .by_cases hc:cap=0
  .simp[bQ,hc]at hg
  .simp[bQ,hc]at hg;subst hg;exact⟨n,cap,cur,rfl,h⟩
theorem rX.a2X(h:rX P base R w e v)(hg:bQ v=some g):base g:=by obtain⟨n,cap,cur,_,h,_⟩:=a6c h hg;exact h
theorem rX.lt(h:rX P base R w e v)(hg:bQ v=some g):g<w.heap.size:=by obtain⟨n,cap,cur,_,_,h,_⟩:=a6c h hg;exact(g3i.1 h).1
theorem rX.rG(h:rX P base R w e v)(hb:∀g,base g->g<w.heap.size->w'.heap[g]? =w.heap[g]?)(hr:∀g off,g<w.heap.size->R' g off->R g off):rX P base R' w' e v:=by
 rcases h with h|⟨g,n,cap,cur,h0,h1,h2,h3,h4,h5,h6⟩
 .exact .inl h
 .have hl:=(g3i.1 h2).1;exact .inr ⟨g,n,cap,cur,h0,h1,(hb g h1 hl).trans h2,h3,h4,h5,λoff ho jD=>h6 off ho (hr g off hl jD)⟩
theorem rX.d1h(h:rX P base R w e v)(hb:∀g,bQ v=some g->w'.heap[g]? =w.heap[g]?)(hr:∀g off,bQ v=some g->R' g off->R g off):rX P base R' w' e v:=by
 rcases h with h|⟨g,n,cap,cur,rfl,h1,h2,h3,h4,h5,h6⟩
 .exact .inl h
 .by_cases hc:cap=0
  .subst hc;have:n=0:=by omega
   subst this;exact .inl ⟨_,rfl⟩
  .have hs:bQ (.slice (some ⟨g,0,none⟩) n cap)=some g:=by simp[bQ,hc]
   exact .inr ⟨g,n,cap,cur,rfl,h1,(hb g hs).trans h2,h3,h4,h5,λoff ho jD=>h6 off ho (hr g off hs jD)⟩
variable{l:Loc}
theorem a9i{dst:Option Tmp}(h:∀d,dst=some d->l≠ .t d):cX (a.put dst v) w μ l=cX a w μ l:=by
 cases dst with
 |none=>rfl
 |some d=>
  cases l with
  |t i=>have:d≠i:=λe=>h d rfl (by rw[e]);simp[cX,Act.put,g3Z this]
  |c k off=>rfl
variable{c:TypeId×List Loc}{own:List (TypeId×List Loc)}
theorem sM(h:(dF l own)[i]? =some c):∃c',own[i]? =some c'/\c.1=c'.1/\∀x,x∈c.2↔x∈c'.2/\x≠l:=by simp only[dF,g3j,g2Y]at h;obtain⟨c',h1,rfl⟩:=h;exact⟨c',h1,rfl,λx=>by simp⟩
theorem a0I(h:(dropKey key own)[i]? =some c):∃c',own[i]? =some c'/\c.1=c'.1/\∀x,x∈c.2↔x∈c'.2/\x.a0G key=false:=by simp only[dropKey,g3j,g2Y]at h;obtain⟨c',h1,rfl⟩:=h;exact⟨c',h1,rfl,λx=>by simp⟩
theorem yI{src dst:Loc}(h:(addAlias src dst own)[i]? =some c):∃c',own[i]? =some c'/\c.1=c'.1/\∀x,x∈c.2->x∈c'.2\/(x=dst/\src∈c'.2):=by
 simp only[addAlias,g3j,g2Y]at h;obtain⟨c',h1,h2⟩:=h;refine⟨c',h1,?_⟩;split at h2
 .rename_i hc;subst h2;refine⟨rfl,λx hx=>?_⟩;simp at hx;rcases hx with rfl|hx
  .exact .inr ⟨rfl,by simpa using hc⟩
  .exact .inl hx
 .subst h2;exact⟨rfl,λx hx=>.inl hx⟩
def a6F(P:Program)(base:dU)(R:Nat->Nat->Prop)(μ:Nat->Nat)(st:St)(a:Act)(w:World)(v:Value):OA->Prop
 |.no=>True
 |.al l=>cX a w μ l=some v
 |.fresh e=>rX P base R w e v/\(∀k o,getKey k st.H=some o->bQ v≠some (μ k))/\∃vs,a2c P base R μ st a w vs/\∀v'∈vs,a5Z v v'/\a5Z v' v
theorem a2c.act{a':Act}{w':World}{st':St}{dst:Loc}{v:Value}{act:OA}(hex:∃vs,a2c P base R μ st a w vs)(oG:st'.own=gH dst act st.own)(a4q:∀k o,getKey k st'.H=some o->∃o',getKey k st.H=some o')(gK:∀c∈st.own,∀l∈c.2,l≠dst->cX a' w' μ l=cX a w μ l)(hd:∀u,cX a' w' μ dst=some u->u=v)(hsl:∀e u,rX P base R w e u->(∀k o,getKey k st.H=some o->bQ u≠some (μ k))->rX P base R' w' e u)(a0Y:a6F P base R μ st a w v act):∃vs',a2c P base R' μ st' a' w' vs':=by
 have rG:∀(vs:List Value),a2c P base R μ st a w vs->∀(i:Nat)(c:TypeId×List Loc)(u:Value),(dF dst st.own)[i]? =some c->vs[i]? =some u->a5c P base R' μ st' a' w' c u:=λvs h i c u hc hu=>by
  obtain⟨c',zM,he,hm⟩:=sM hc;have ho:=h.one i c' u zM hu;refine⟨λl hl u' hu'=>?_,?_,λk o hk=>?_⟩
  .have:=(hm l).1 hl;exact ho.eR l this.1 u' ((gK c' (g3e zM) l this.1 this.2).symm.trans hu')
  .rw[he];exact hsl c'.1 u ho.own ho.keys
  .obtain⟨o',xF⟩:=a4q k o hk;exact ho.keys k o' xF
 cases act with
 |no=>obtain⟨vs,h⟩:=hex;exact⟨vs,by rw[oG];simpa[gH,dF]using h.len,λi c u hc hu=>rG vs h i c u (by rw[oG]at hc;exact hc) hu,h.apart⟩
 |al l=>
  obtain⟨vs,h⟩:=hex;have h1:=h.one;by_cases hld:l=dst
  .subst hld;refine⟨vs,by rw[oG];simpa[gH]using h.len,λi c u hc hu=>?_,h.apart⟩;rw[oG]at hc;simp only[gH,if_true]at hc;have ho:=h1 i c u hc hu;refine⟨λl' hl' u' hu'=>?_,hsl c.1 u ho.own ho.keys,λk o hk=>by obtain⟨o',xF⟩:=a4q k o hk;exact ho.keys k o' xF⟩;by_cases f1J:l'=l
   .subst f1J;exact(hd u' hu').trans (ho.eR l' hl' v a0Y)
   .exact ho.eR l' hl' u' ((gK c (g3e hc) l' hl' f1J).symm.trans hu')
  .refine⟨vs,by rw[oG];simpa[gH,hld,addAlias,dF]using h.len,λi c u hc hu=>?_,h.apart⟩;rw[oG]at hc;simp only[gH,if_neg hld]at hc;obtain⟨c',zM,he,hm⟩:=yI hc;have ho:=rG vs h i c' u zM hu;refine⟨λl' hl' u' hu'=>?_,by rw[he];exact ho.own,ho.keys⟩;rcases hm l' hl' with hx|⟨rfl,hx⟩
   .exact ho.eR l' hx u' hu'
   .obtain⟨c0,zO,_,hm0⟩:=sM zM;exact(hd u' hu').trans ((h1 i c0 u zO hu).eR l ((hm0 l).1 hx).1 v a0Y)
 |fresh e=>
  obtain⟨ha1,ha2,vs,h,f5A⟩:=a0Y;refine⟨v::vs,by rw[oG];simpa[gH,dF]using h.len,λi c u hc hu=>?_,List.pairwise_cons.2 ⟨λv' hv'=>(f5A v' hv').1,h.apart⟩⟩;rw[oG]at hc;cases i with
  |zero=>simp[gH]at hc hu;subst hc hu;exact⟨λl hl u hu=>by simp at hl;subst hl;exact hd u hu,hsl e v ha1 ha2,λk o hk=>by obtain⟨o',xF⟩:=a4q k o hk;exact ha2 k o' xF⟩
  |succ i=>simp[gH]at hc hu;exact rG vs h i c u hc hu
theorem Rel.put{dst:Option Tmp}{v:Value}{dv:DV}{act:OA}(h:Rel P G base R μ st a w)(hv:TV R μ w v dv)(a0Y:a6F P base R μ st a w v act):
  Rel P G base R μ (finish st dst dv act) (a.put dst v) w:=by
 cases dst with
 |none=>exact h
 |some d=>
  refine⟨h.defers,by simp[finish,Act.put,h.size],λi u x hu hx=>?_,h.mE,h.inj,λc hc k off hl=>?_,?_,h.wS,h.rY,h.base,h.pass⟩
  .simp only[finish,Act.put]at hu hx;by_cases hdi:d=i
   .subst hdi;have h1:d<st.tmps.length:=by
     by_cases aG:d<st.tmps.length
     .exact aG
     .have uV:(st.tmps.set d dv)[d]? =none:=g3G (by rw[List.length_set];exact g3I aG);rw[uV]at hx;cases hx
    have h2:d<a.tmps.size:=by rw[h.size];exact h1
    simp[h1]at hx;simp[h2]at hu;subst hu hx;exact hv
   .rw[g3Z hdi]at hu;rw[List.getElem?_set_ne hdi]at hx;exact h.tmps i u x hu hx
  .simp only[finish]at hc;obtain⟨i,hi⟩:=g3q hc;cases act with
   |no=>obtain⟨c',zM,_,hm⟩:=sM hi;exact h.eR c' (g3e zM) k off ((hm _).1 hl).1
   |al l=>
    by_cases hld:l=.t d
    .simp only[gH,if_pos hld]at hi;exact h.eR c (g3e hi) k off hl
    .simp only[gH,if_neg hld]at hi;obtain⟨c',zM,_,hm⟩:=yI hi;rcases hm _ hl with hx|⟨hx,_⟩
     .obtain⟨c0,zO,_,hm0⟩:=sM zM;exact h.eR c0 (g3e zO) k off ((hm0 _).1 hx).1
     .cases hx
   |fresh e=>
    cases i with
    |zero=>simp[gH]at hi;subst hi;simp at hl
    |succ i=>simp[gH]at hi;obtain⟨c',zM,_,hm⟩:=sM hi;exact h.eR c' (g3e zM) k off ((hm _).1 hl).1
  .refine a2c.act (st':=finish st (some d) dv act) h.own rfl (λk o hk=>⟨o,hk⟩) (λc _ l _ hl=>a9i λd' hd'=>by cases hd';exact hl) (λu hu=>?_) (λe u hu _=>hu) a0Y;simp only[cX,Act.put]at hu;by_cases aG:d<a.tmps.size
   .simp[aG]at hu;exact hu.symm
   .simp[aG]at hu
theorem a2c.step(h:Rel P G base R μ st a w){vs:List Value}(sU:a2c P base R μ st a w vs)(hb:∀k,k<w.heap.size->w'.heap[k]? =w.heap[k]?)(hold:∀b o,b<w.heap.size->R' b o->R b o):a2c P base R' μ st a w' vs:=by
 obtain⟨hl,h1,hap⟩:=sU;refine⟨hl,λi c v hc hv=>?_,hap⟩;have ho:=h1 i c v hc hv;refine⟨λl hl u hu=>?_,ho.own.rG (λg _ hg=>hb g hg) (λg off hg=>hold g off hg),ho.keys⟩;refine ho.eR l hl u ?_;cases l with
 |t i=>exact hu
 |c k off=>obtain⟨o,hk⟩:=h.eR c (g3e hc) k off hl;obtain⟨_,_,h3⟩:=h.mE k o hk;rw[show cX a w' μ (.c k off)=cX a w μ (.c k off) from g3V (hb _ h3.lt)]at hu;exact hu
theorem a2c.lt{vs:List Value}(sU:a2c P base R μ st a w vs){v:Value}(hv:v∈vs){g:Nat}(hg:bQ v=some g):g<w.heap.size:=by
 obtain⟨i,hi⟩:=g3q hv;have yJ:i<st.own.length:=by rw[<-sU.len];exact(g3a.1 hi).1
 exact(sU.one i st.own[i] v (by simp[yJ]) hi).own.lt hg
theorem Rel.step(h:Rel P G base R μ st a w)(hs:Step base R w R' w')(hb:∀k,k<w.heap.size->w'.heap[k]? =w.heap[k]?)(hn:∀b o,R' b o-> ¬R b o->w.heap.size<=b)(hr:∀b o,R' b o->b<w'.heap.size):
  Rel P G base R' μ st a w':=by
 have hold:∀b o,b<w.heap.size->R' b o->R b o:=λb o hl jD=>by
  by_cases hx:R b o
  .exact hx
  .have:=hn b o jD hx;omega
 refine⟨h.defers,h.size,λi v d hv hd=>(h.tmps i v d hv hd).cA hs,λk o hk=>?_,h.inj,h.eR,?_,h.wS.cA hs,hr,λb hb=>h.base b (Nat.le_trans hs.below.size hb),h.pass⟩
 .obtain⟨h1,h2,h3⟩:=h.mE k o hk;exact⟨h1,λoff jD=>h2 off (hold _ _ h3.lt jD),h3.cA hs (hb _ h3.lt)⟩
 .obtain⟨vs,sU⟩:=h.own;exact⟨vs,sU.step h hb hold⟩
variable{d:DV}
theorem TV.kill(key b:Nat)(h:TV R μ w v d):TV R (λk=>if k=key then b else μ k) w v (oL key d):=by
 unfold oL;by_cases hm:mentions key d=true
 .rw[if_pos hm];exact .undef _
 .rw[if_neg hm];exact h.e4J (key:=key) (λk hk=>by simp[hk]) (by simpa using hm)
theorem c2i(h:d.cell=true):(oL key d).cell=true:=by
 unfold oL;split
 .rfl
 .exact h
theorem mV.kill{b:Nat}{o:bH}(key b':Nat)(h:mV R μ w b o):mV R (λk=>if k=key then b' else μ k) w b (a2V key o):=by
 cases o with
 |cells cs=>
  obtain⟨vs,T,h1,h2,h3,h4⟩:=h;refine⟨vs,T,h1,by simp[h2],λi d hi=>?_,λT' hm=>?_⟩
  .rw[g3j]at hi;obtain⟨d0,hd0,rfl⟩:=g2Y.1 hi;exact⟨c2i (h3 i d0 hd0).1,(h3 i d0 hd0).2.kill key b'⟩
  .obtain⟨d0,hd0,he⟩:=g3u.1 hm;unfold oL at he;split at he
   .cases he
   .subst he;exact h4 T' hd0
 |map es=>exact h
 |iter s p=>exact h
 |bld T u es=>exact h
theorem uW(key k:Nat):∀H:List (Nat×bH),getKey k (H.map λp=>(p.1,a2V key p.2))=(getKey k H).map (a2V key)
 |[]=>rfl
 |(k',o)::r=>by
  simp only[List.map_cons,getKey];split
  .rfl
  .exact uW key k r
theorem Step.alloc(R:Nat->Nat->Prop)(w:World)(o:Obj)(hb:∀b,w.heap.size<=b->base b)(hr:∀b o,R b o->b<w.heap.size):Step base R w R (w.alloc o):=
 ⟨(a2d.refl _ _).alloc hb o,λ_ _ h=>h,λ_ _ h h'=>absurd h h',λb off hR=>World.cell?_alloc_lt w o ⟨b,off,none⟩ (hr b off hR)⟩
theorem Rel.newObj(h:Rel P G base R μ st a w)(key:Nat)(f9I:key<100000)(o:bH)(ob:Obj)(hob:mV R (λk=>if k=key then w.heap.size else μ k) (w.alloc ob) w.heap.size o):
  Rel P G base R (λk=>if k=key then w.heap.size else μ k) (jQ st key o) a (w.alloc ob)/\Step base R w R (w.alloc ob):=by
 have hs:Step base R w R (w.alloc ob):=Step.alloc R w ob h.base h.rY;have hold:∀k,k<w.heap.size->(w.alloc ob).heap[k]? =w.heap[k]? :=λk hk=>Below.heap_alloc w ob k hk;refine⟨⟨h.defers,by simp[jQ,h.size],λi v d hv hd=>?_,λk o' hk=>?_,λk k' o1 o2 h1 h2 he=>?_,λc hc k off hl=>?_,?_,h.wS.cA hs,λb off hr=>by have:=h.rY b off hr;simp;omega,λb hb=>h.base b (by simp at hb;omega),λk hk=>by rw[if_neg (by omega)];exact h.pass k hk⟩,hs⟩
 .simp only[jQ,g3j,g2Y]at hd;obtain⟨d0,hd0,rfl⟩:=hd;exact((h.tmps i v d0 hv hd0).cA hs).kill key w.heap.size
 .simp only[jQ,jS]at hk;by_cases yK:key=k
  .subst yK;simp at hk;subst hk;simp only[if_true];exact⟨h.base _ (g3p _),λoff hr=>by have:=h.rY _ _ hr;omega,hob⟩
  .rw[if_neg yK,uW]at hk;obtain⟨o0,ho0,rfl⟩:=g2Y.1 hk;obtain⟨h1,h2,h3⟩:=h.mE k o0 ho0;simp only[if_neg (Ne.symm yK)];exact⟨h1,h2,(h3.cA hs (hold _ h3.lt)).kill key w.heap.size⟩
 .simp only[jQ,jS]at h1 h2;by_cases hk1:key=k
  .by_cases hk2:key=k'
   .exact hk1.symm.trans hk2
   .subst hk1;rw[if_neg hk2,uW]at h2;obtain⟨o0,ho0,_⟩:=g2Y.1 h2;obtain⟨_,_,h3⟩:=h.mE k' o0 ho0;have:=h3.lt;simp[Ne.symm hk2]at he;omega
  .rw[if_neg hk1,uW]at h1;obtain⟨o0,ho0,_⟩:=g2Y.1 h1;obtain⟨_,_,h3⟩:=h.mE k o0 ho0;have aG:=h3.lt;by_cases hk2:key=k'
   .subst hk2;simp[Ne.symm hk1]at he;omega
   .rw[if_neg hk2,uW]at h2;obtain⟨o3,ho3,_⟩:=g2Y.1 h2;simp only[if_neg (Ne.symm hk1),if_neg (Ne.symm hk2)]at he;exact h.inj k k' o0 o3 ho0 ho3 he
 .obtain⟨i,hi⟩:=g3q hc;simp only[jQ]at hi;obtain⟨c',zM,_,hm⟩:=a0I hi;have:=(hm _).1 hl;obtain⟨o',xF⟩:=h.eR c' (g3e zM) k off this.1;simp only[jQ,jS];split
  .exact⟨_,rfl⟩
  .rw[uW,xF];exact⟨_,rfl⟩
 .obtain⟨vs,hl,h1,hap⟩:=h.own;refine⟨vs,by simpa[jQ,dropKey]using hl,λi c v hc hv=>?_,hap⟩;simp only[jQ]at hc;obtain⟨c',zM,he,hm⟩:=a0I hc;have ho:=h1 i c' v zM hv;refine⟨λl hl u hu=>?_,by rw[he];exact ho.own.rG (λg _ hg=>hold g hg) (λg off _ hr=>hr),λk o' hk=>?_⟩
  .have hx:=(hm l).1 hl;refine ho.eR l hx.1 u ?_;cases l with
   |t i=>exact hu
   |c k off=>
    have yK:k≠key:=by simpa[Loc.a0G]using hx.2
    obtain⟨o',xF⟩:=h.eR c' (g3e zM) k off hx.1;obtain⟨_,_,h3⟩:=h.mE k o' xF;simp only[cX,if_neg yK]at hu|-;rw[<-hu];exact(g3V (hold _ h3.lt)).symm
  .simp only[jQ,jS]at hk;by_cases yK:key=k
   .subst yK;simp only[if_true];intro hsp;have:=ho.own.lt hsp;omega
   .rw[if_neg yK,uW]at hk;obtain⟨o0,ho0,_⟩:=g2Y.1 hk;simp only[if_neg (Ne.symm yK)];exact ho.keys k o0 ho0
end
end Go.VM
namespace Go.VM
open Go Go.RowKit
section
variable {P:Program} {G:GT} {base:dU} {R:Nat->Nat->Prop} {μ:Nat->Nat} {st:St} {a:Act} {w:World}
variable{v:Value}
theorem zY{x:D}(h:a0F v=some x):V R w v x/\x.one=true:=by
 unfold a0F at h;split at h<;>simp at h<;>subst h
 .exact⟨.int _ _,rfl⟩
 .exact⟨.bool _,rfl⟩
 .rename_i s;have:=V.str (R:=R) (w:=w) s.data.toList;simp only[Array.toArray_toList]at this;exact⟨this,rfl⟩
 .exact⟨.aE _,rfl⟩
theorem a6G:∀{l:List Value}{ds:List D},zU l=some ds->l.length=ds.length/\∀(i:Nat)(d:D),ds[i]? =some d->V R w (l.getD i undef) d/\d.one=true
 |[],ds,h=>by simp[zU]at h;subst h;simp
 |v::l,ds,h=>by
  unfold zU at h;split at h<;>simp at h;rename_i x ds' h1 h2;subst h;obtain⟨h3,h4⟩:=a6G (l:=l) h2;refine⟨by simp[h3],λi d hi=>?_⟩;cases i with
  |zero=>simp at hi;subst hi;exact zY h1
  |succ i=>simp at hi;simpa using h4 i d hi
theorem c8N(v:Value):TV R μ w v (ofConst v):=by
 unfold ofConst;split
 .rename_i cs;split
  .rename_i ds h;obtain⟨h1,h2⟩:=a6G (R:=R) (w:=w) h;exact .d _ _ (.agg cs ds (by simpa using h1) (λi d hi=>(h2 i d hi).2) λi d hi=>by have:=(h2 i d hi).1;simpa[g3b,List.getD]using this)
  .exact .undef _
 .split
  .rename_i x h;exact .d _ _ (zY h).1
  .exact .undef _
theorem Rel.eval(h:Rel P G base R μ st a w)(x:Operand):TV R μ w (a.eval x) (st.eval G x):=by
 cases x with
 |tmp t=>
  simp only[Act.eval,St.eval];by_cases ht:t<a.tmps.size
  .have h1:a.tmps[t]? =some (a.tmps.getD t undef):=by simp[ht]
   have h2:st.tmps[t]? =some (st.tmps.getD t (.cY [])):=by
    have:t<st.tmps.length:=by rw[<-h.size];exact ht
    simp[this,List.getD]
   exact h.tmps t _ _ h1 h2
  .have h3:¬t<st.tmps.length:=by rw[<-h.size];exact ht
   have h1:a.tmps.getD t undef=.tuple #[]:=by simp[Array.getD,ht];rfl
   have h2:st.tmps.getD t (.cY [])=.cY []:=by simp[List.getD,g3G (g3I h3)]
   rw[h1,h2];exact .cY _ _ rfl (by simp)
 |const v=>exact c8N v
 |global g=>
  simp only[Act.eval,St.eval];split
  .rename_i cs hg;exact .ep g 0 cs (h.wS g cs hg).1
  .exact .undef _
 |func f=>exact .fn f
theorem TV.b1j{d:D}(h:TV R μ w v (.d d)):V R w v d:=by cases h;assumption
theorem Rel.pQ(h:Rel P G base R μ st a w){x:Operand}{d:D}(hx:st.eval G x=.d d):V R w (a.eval x) d:=by have:=h.eval x;rw[hx]at this;exact this.b1j
theorem Rel.uQ(h:Rel P G base R μ st a w)(x:Operand):a6F P base R μ st a w (a.eval x) (uQ (st.eval G x) (xE x)):=by
 unfold Go.VM.uQ;split
 .rename_i es hx;cases x with
  |tmp s=>
   show a.tmps[s]? =some (a.tmps.getD s undef)
   by_cases hs:s<a.tmps.size
   .simp[hs]
   .have h3:¬s<st.tmps.length:=by rw[<-h.size];exact hs
    simp[St.eval,List.getD,g3G (g3I h3)]at hx
  |_=>trivial
 .trivial
def wM(P:Program)(G:GT)(o:Oper)(st:St)(out:Out):Prop:=
 ∀base R μ a w,Rel P G base R μ st a w->∃v w' R' μ',((execOp a.eval o).run P w=.ok (.value v) w'\/((execOp a.eval o).run P w=.ok .skip w'/\v=Go.undef))/\
  Rel P G base R' μ' out.st a w'/\TV R' μ' w' v out.v/\a6F P base R' μ' out.st a w' v out.act/\Step base R w R' w'
theorem bR{o:Oper}{v':DV}{act:OA}(h:∀base R μ a w,Rel P G base R μ st a w->∃v,(execOp a.eval o).run P w=.ok (.value v) w/\TV R μ w v v'/\a6F P base R μ st a w v act):wM P G o st ⟨v',act,st⟩:=by intro base R μ a w hr;obtain⟨v,h1,h2,h3⟩:=h base R μ a w hr;exact⟨v,w,R,μ,.inl h1,hr,h2,h3,.refl _ _ _⟩
variable{t:TypeId}{d:TypeDesc}
theorem info_of_underlying(h:P.underlying t=some d):∃i,P.info? t=some i/\i.size=P.cellsOf t/\i.bytes=P.bytesOf t:=by
 unfold Program.underlying at h;cases hi:P.info? t with
 |none=>simp[hi]at h
 |some i=>exact⟨i,rfl,by simp[Program.cellsOf,hi],by simp[Program.bytesOf,hi]⟩
theorem run_sizeOf(h:P.underlying t=some d)(w:World):(sizeOf t).run P w=.ok (P.cellsOf t) w:=by obtain⟨i,h1,h2,_⟩:=info_of_underlying h;simp[sizeOf,typeInfo,h1,h2]
theorem tO(h:P.underlying t=some d)(w:World):(isAgg t).run P w=.ok (qU d) w:=by unfold isAgg;simp only[g3O,g3P h,g3Q];cases d<;>rfl
theorem pC(b o j:Nat):(⟨b,o,none⟩:Addr).add j=⟨b,o+j,none⟩:=by unfold Addr.add;split<;>simp_all
def e0T(R:Nat->Nat->Prop)(w:World)(b o:Nat)(cs:List D):Prop:=∀(j:Nat)(d:D),cs[j]? =some d->d.one=true/\∃v,w.cell? ⟨b,o+j,none⟩=some v/\V R w v d
variable{b o:Nat}
theorem Run.e6U{cs:List D}(h:Run R w b o cs):e0T R w b o cs:=λj d hj=>⟨(h j d hj).1,(h j d hj).2.2⟩
theorem Run.drop{b o:Nat}{cs:List D}(h:Run R w b o cs)(n:Nat):Run R w b (o+n) (cs.drop n):=λj d hj=>by
 rw[g3s]at hj;have:=h _ d hj
 rwa[<-Nat.add_assoc]at this
def b3b(R:Nat->Nat->Prop)(μ:Nat->Nat)(w:World)(b o:Nat)(cs:List DV):Prop:=∀(j:Nat)(d:DV),cs[j]? =some d->d.cell=true/\∃v,w.cell? ⟨b,o+j,none⟩=some v/\TV R μ w v d
theorem b3b.drop{b o:Nat}{cs:List DV}(h:b3b R μ w b o cs)(n:Nat):b3b R μ w b (o+n) (cs.drop n):=λj d hj=>by
 rw[g3s]at hj;have:=h _ d hj
 rwa[<-Nat.add_assoc]at this
variable{cs:List DV}
theorem b3b.c2j(h:mV R μ w b (.cells cs)):b3b R μ w b 0 cs:=λj d hj=>by
 obtain⟨vs,T,hh,mI,sN,_⟩:=h;obtain⟨h1,h2⟩:=sN j d hj;have aG:j<vs.size:=by rw[mI];exact(g3a.1 hj).1
 refine⟨h1,vs.getD j undef,?_,h2⟩;rw[Nat.zero_add,cell_of_row w _ _ vs T (0,0) hh];simp[aG]
theorem d1j:∀{l:List DV}{ds:List D},zW l=some ds->l=ds.map .d
 |[],ds,h=>by simp[zW]at h;subst h;rfl
 |.d x::l,ds,h=>by
  simp only[zW]at h;split at h
  .rename_i ds' h';simp at h;subst h;rw[d1j h']
   rfl
  .cases h
 |.undef::_,_,h|.ptr _ _::_,_,h|.ep _::_,_,h|.mp _::_,_,h|.it _::_,_,h|.cY _::_,_,h|.fn _::_,_,h|.a0E _::_,_,h|.rQ::_,_,h|.clo _ _::_,_,h|.ag _::_,_,h=>by simp[zW]at h
theorem b3b.e6U{ds:List D}(h:b3b R μ w b o (ds.map .d)):e0T R w b o ds:=λj d hj=>by obtain⟨h1,v,h2,h3⟩:=h j (.d d) (by simp[hj]);exact⟨h1,v,h2,h3.b1j⟩
theorem a6d{cs:List D}{y:D}(dD:e0T R w b o cs)(ht:takeD P t cs=some y:=by unfold takeD;rw[hd];simp only[b0a,if_true];rw[if_pos (by omega), <- hl,g3S]):
  ∃v,(loadVar t ⟨b,o,none⟩).run P w=.ok v w/\V R w v y/\(∀es,y=.sl es->w.cell? ⟨b,o,none⟩=some v):=by
 unfold takeD at ht;split at ht
 .rename_i d hd;split at ht
  .rename_i b0a;split at ht
   .rename_i hle;simp at ht;subst ht;have hc:∀j,j<P.cellsOf t->∃v,w.cell? ⟨b,o+j,none⟩=some v/\∀d,cs[j]? =some d->d.one=true/\V R w v d:=λj hj=>by
     have aG:j<cs.length:=by omega
     obtain⟨h1,v,h3,h4⟩:=dD j cs[j] (by simp[aG]);exact⟨v,h3,λd hd=>by simp[aG]at hd;subst hd;exact⟨h1,h4⟩⟩
    have hf:∀j,j<P.cellsOf t->w.cell? ((⟨b,o,none⟩:Addr).add j)=some ((w.cell? ⟨b,o+j,none⟩).getD undef):=λj hj=>by obtain⟨v,hv,_⟩:=hc j hj;rw[pC,hv];rfl
    refine⟨.agg ((List.range (P.cellsOf t)).map λj=>(w.cell? ⟨b,o+j,none⟩).getD undef).toArray,?_,.agg _ _ (by simp;omega) (λi d hi=>?_) (λi d hi=>?_),by simp⟩
    .unfold loadVar;simp only[g3O,tO hd,g3Q,b0a,if_true,run_sizeOf hd,run_loadCells (P:=P) w _ _ _ hf,Sem.run_pure]
    .rw[g3F]at hi;split at hi
     .rename_i aG;obtain⟨v,_,hv⟩:=hc i aG;exact(hv d hi).1
     .cases hi
    .rw[g3F]at hi;split at hi
     .rename_i aG;obtain⟨v,hv,hvd⟩:=hc i aG;simp[g3b,aG,hv];exact(hvd d hi).2
     .cases hi
   .cases ht
  .rename_i b0a;have h0:cs[0]? =some y:=by rw[<-List.head?_eq_getElem?];exact ht
   obtain⟨_,v,h3,h4⟩:=dD 0 y h0;refine⟨v,?_,h4,λ_ _=>by simpa using h3⟩;unfold loadVar;simp only[Nat.add_zero]at h3;simp only[g3O,tO hd,g3Q,b0a,g3t,if_false,run_load,h3]
 .cases ht
variable{y:DV}
theorem b3X(h:takeA cs=some y):(∃ds,zW cs=some ds/\y=.d (.agg ds))\/(cs.all c0r=true/\y=.ag cs):=by
 unfold takeA at h;split at h
 .rename_i ds hd;cases h;exact .inl ⟨ds,hd,rfl⟩
 .split at h
  .rename_i ha;cases h;exact .inr ⟨ha,rfl⟩
  .cases h
theorem TV.c0r{v:Value}{c:DV}(h:TV R μ w v c)(hs:Go.VM.c0r c=true):v.oneCell'=true:=by
 cases h with
 |d v x h=>exact h.b1i hs
 |undef v=>cases hs
 |ptr k off=>rfl
 |ep b o cs h=>rfl
 |mp k=>rfl
 |it k=>cases hs
 |cY vs ds h1 h2=>cases hs
 |fn f=>rfl
 |rQ b=>rfl
 |a0E T=>cases hs
 |clo f vs cs h1 h2=>rfl
 |ag vs cs h1 h2 h3 h4=>cases hs
theorem zZ(dD:b3b R μ w b o cs)(ht:b3U P t cs=some y):
  ∃v,(loadVar t ⟨b,o,none⟩).run P w=.ok v w/\TV R μ w v y/\(∀es,y=.d (.sl es)->w.cell? ⟨b,o,none⟩=some v):=by
 unfold b3U at ht;split at ht
 .rename_i d hd;split at ht
  .rename_i b0a;split at ht
   .rename_i hle;rcases b3X ht with⟨ds,hds,rfl⟩|⟨eS,rfl⟩
    .have he:=d1j hds;have hl:ds.length=P.cellsOf t:=by have:=congrArg List.length he;simp at this;omega
     have h0:e0T R w b o ds:=b3b.e6U (μ:=μ) λj x hj=>dD j x (by
      rw[<-he,g3F]at hj;split at hj
      .exact hj
      .cases hj)
     obtain⟨v,h1,h2,h3⟩:=a6d (P:=P) (t:=t) h0 (y:=.agg ds);exact⟨v,h1,.d _ _ h2,λes he=>by cases he⟩
    .have hc:∀j,j<P.cellsOf t->∃v,w.cell? ⟨b,o+j,none⟩=some v/\∀d,(cs.take (P.cellsOf t))[j]? =some d->d.cell=true/\TV R μ w v d/\v.oneCell'=true:=λj hj=>by
      have aG:j<cs.length:=by omega
      obtain⟨h1,v,h3,h4⟩:=dD j cs[j] (by simp[aG]);refine⟨v,h3,λd hd=>?_⟩;rw[g3F,if_pos hj,g3d aG]at hd;cases hd;refine⟨h1,h4,h4.c0r ?_⟩;exact g3c.1 eS _ (g3e (i:=j) (by rw[g3F,if_pos hj,g3d aG]))
     have hf:∀j,j<P.cellsOf t->w.cell? ((⟨b,o,none⟩:Addr).add j)=some ((w.cell? ⟨b,o+j,none⟩).getD undef):=λj hj=>by obtain⟨v,hv,_⟩:=hc j hj;rw[pC,hv];rfl
     have hlen:(cs.take (P.cellsOf t)).length=P.cellsOf t:=by simp;omega
     have hat:∀(i:Nat)(d:DV),(cs.take (P.cellsOf t))[i]? =some d->d.cell=true/\TV R μ w ((((List.range (P.cellsOf t)).map λj=>(w.cell? ⟨b,o+j,none⟩).getD undef).toArray).getD i Go.undef) d/\((((List.range (P.cellsOf t)).map λj=>(w.cell? ⟨b,o+j,none⟩).getD undef).toArray).getD i Go.undef).oneCell'=true:=λi d hi=>by
      have aG:i<P.cellsOf t:=by rw[<-hlen];exact(g3a.1 hi).1
      obtain⟨v,hv,hvd⟩:=hc i aG;simp[g3b,aG,hv];exact hvd d hi
     refine⟨.agg ((List.range (P.cellsOf t)).map λj=>(w.cell? ⟨b,o+j,none⟩).getD undef).toArray,?_,.ag _ _ (by simp;omega) (λi hi=>(hat i _ (g3d hi)).2.2) (λi d hi=>(hat i d hi).1) (λi d hi=>(hat i d hi).2.1),by simp⟩;unfold loadVar;simp only[g3O,tO hd,g3Q,b0a,if_true,run_sizeOf hd,run_loadCells (P:=P) w _ _ _ hf,Sem.run_pure]
   .cases ht
  .rename_i b0a;have h0:cs[0]? =some y:=by rw[<-List.head?_eq_getElem?];exact ht
   obtain⟨_,v,h3,h4⟩:=dD 0 y h0;refine⟨v,?_,h4,λ_ _=>by simpa using h3⟩;unfold loadVar;simp only[Nat.add_zero]at h3;simp only[g3O,tO hd,g3Q,b0a,g3t,if_false,run_load,h3]
 .cases ht
theorem a5b.overwrite{T:TypeId}{cs ys:List DV}(h:a5b T cs)(hy:ys.all c0q=true)(off:Nat):a5b T (Go.VM.overwrite cs off ys):=λT' hm=>by
 unfold Go.VM.overwrite at hm;rw[g3z,g3z]at hm;rcases hm with(hm|hm)|hm
 .exact h T' (g4a hm)
 .exact a5b.c4S hy T' hm
 .exact h T' (List.mem_of_mem_drop hm)
theorem b3d{xG:List DV}(hc:Go.VM.xD (.ag xG)=some cs):xG.all c0q=true/\cs=xG:=by
 simp only[Go.VM.xD]at hc;split at hc
 .rename_i h;cases hc;exact⟨h,rfl⟩
 .cases hc
theorem b1k{d:DV}(hc:Go.VM.xD d=some cs):cs.all c0q=true:=by
 cases d with
 |d y=>cases hc;exact g3c.2 λc hm=>by obtain⟨y,_,rfl⟩:=g3u.1 hm;rfl
 |ag xG=>obtain⟨h,rfl⟩:=b3d hc;exact h
 |undef=>cases hc
 |it _=>cases hc
 |cY _=>cases hc
 |a0E _=>cases hc
 |ptr _ _=>cases hc;rfl
 |ep _=>cases hc;rfl
 |mp _=>cases hc;rfl
 |fn _=>cases hc;rfl
 |rQ=>cases hc;rfl
 |clo _ _=>cases hc;rfl
theorem a4s{d:DV}(h:TV R μ w v d)(hc:Go.VM.xD d=some cs):
  v.cells.size=cs.length/\∀(i:Nat)(c:DV),cs[i]? =some c->c.cell=true/\TV R μ w (v.cells.getD i undef) c/\(v.cells.getD i undef).oneCell'=true:=by
 have one:∀(u:Value)(c:DV),u.cells=#[u]->u.oneCell'=true->c.cell=true->TV R μ w u c->u.cells.size=[c].length/\∀(i:Nat)(c':DV),[c][i]? =some c'->c'.cell=true/\TV R μ w (u.cells.getD i undef) c'/\(u.cells.getD i undef).oneCell'=true:=λu c h1 h2 h3 h4=>by
  rw[h1];refine⟨rfl,λi c' hi=>?_⟩;cases i with
  |zero=>simp at hi;subst hi;exact⟨h3,h4,h2⟩
  |succ i=>simp at hi
 cases h with
 |d v x h=>simp only[Go.VM.xD,g3f]at hc;subst hc;obtain⟨h1,h2⟩:=h.cells;refine⟨by simp[h1],λi c hi=>?_⟩;rw[g3j]at hi;obtain⟨y,hy,rfl⟩:=g2Y.1 hi;obtain⟨h3,h4⟩:=h2 i y hy;exact⟨h3,.d _ _ h4,h4.b1i h3⟩
 |undef v=>cases hc
 |it k=>cases hc
 |cY vs ds h1 h2=>cases hc
 |ptr k off=>cases hc;exact one _ _ rfl rfl rfl (.ptr k off)
 |ep b o cs h=>cases hc;exact one _ _ rfl rfl rfl (.ep b o cs h)
 |mp k=>cases hc;exact one _ _ rfl rfl rfl (.mp k)
 |fn f=>cases hc;exact one _ _ rfl rfl rfl (.fn f)
 |rQ b=>cases hc;exact one _ _ rfl rfl rfl (.rQ b)
 |a0E T=>cases hc
 |clo f vs cs h1 h2=>cases hc;exact one _ _ rfl rfl rfl (.clo f vs cs h1 h2)
 |ag vs cs h1 h2 h3 h4=>obtain⟨_,rfl⟩:=b3d hc;exact⟨h1,λi c hi=>⟨h3 i c hi,h4 i c hi,h2 i (g3a.1 hi).1⟩⟩
end
end Go.VM
namespace Go.VM
open Go Go.RowKit
section
variable {P:Program} {G:GT} {st:St} {out:Out}
variable{x:Operand}{o:Oper}
theorem c4U(ho:o.op=.move x\/o.op=.assign x)(h:a4p G x st=some out):wM P G o st out:=by simp only[a4p,g3f]at h;subst h;refine bR λbase R μ a w hr=>⟨a.eval x,?_,hr.eval x,hr.uQ x⟩;rcases ho with ho|ho<;>simp[execOp,ho]
variable{w:World}{v:Value}{R:Nat->Nat->Prop}
theorem V.a6H{b:Bool}(h:V R w v (.bool b)):v=.bool b:=by cases h;rfl
theorem V.a1t{k:IntKind}{n:Int}(h:V R w v (.int k n)):v=.int k n:=by cases h;rfl
theorem V.vR{s:List UInt8}(h:V R w v (.str s)):v=.string ⟨s.toArray⟩:=by cases h;rfl
theorem V.mN(h:V R w v .aE):∃ao,v=.slice ao 0 0:=by cases h;exact⟨_,rfl⟩
variable{ds:List D}
theorem V.a5d(h:V R w v (.agg ds)):∃cs,v=.agg cs/\cs.size=ds.length/\(∀(i:Nat)(d:D),ds[i]? =some d->d.one=true/\V R w (cs.getD i undef) d):=by cases h;exact⟨_,rfl,by assumption,λi d hi=>⟨by rename_i h _;exact h i d hi,by rename_i h;exact h i d hi⟩⟩
variable{μ:Nat->Nat}{i k off:Nat}
theorem TV.c2k(h:TV R μ w v (.ptr k off)):v=.pointer (some ⟨μ k,off,none⟩):=by cases h;rfl
theorem TV.a6I{cs:List D}(h:TV R μ w v (.ep cs)):∃b o,v=.pointer (some ⟨b,o,none⟩)/\Run R w b o cs:=by cases h;exact⟨_,_,rfl,by assumption⟩
theorem TV.e6V(h:TV R μ w v (.it k)):v=.pointer (some ⟨μ k,0,none⟩):=by cases h;rfl
variable{f:FuncId}
theorem TV.e6W(h:TV R μ w v (.fn f)):v=.func (.func f) #[] #[]:=by cases h;rfl
theorem TV.b1l{cs:List DV}(h:TV R μ w v (.clo f cs)):∃vs,v=.func (.func f) #[] vs/\vs.size=cs.length/\∀(i:Nat)(c:DV),cs[i]? =some c->TV R μ w (vs.getD i Go.undef) c:=by cases h;exact⟨_,rfl,by assumption,by assumption⟩
theorem TV.e0U(h:TV R μ w v (.cY ds)):∃vs,v=.tuple vs/\vs.size=ds.length/\(∀(i:Nat)(d:D),ds[i]? =some d->V R w (vs.getD i Go.undef) d):=by cases h;exact⟨_,rfl,by assumption,by assumption⟩
section
variable {base:dU} {R:Nat->Nat->Prop} {μ:Nat->Nat} {a:Act} {w:World}
variable{x:Operand}
theorem Rel.qQ(h:Rel P G base R μ st a w){d:DV}(hx:st.eval G x=d):TV R μ w (a.eval x) d:=by rw[<-hx];exact h.eval x
variable{k:Nat}
theorem Rel.eJ(h:Rel P G base R μ st a w){off:Nat}(hx:st.eval G x=.ptr k off):a.eval x=.pointer (some ⟨μ k,off,none⟩):=(h.qQ hx).c2k
theorem Rel.yL(h:Rel P G base R μ st a w){k:IntKind}{n:Int}(hx:st.eval G x=.d (.int k n)):a.eval x=.int k n:=(h.pQ hx).a1t
theorem Rel.a2f(h:Rel P G base R μ st a w){b:Bool}(hx:st.eval G x=.d (.bool b)):a.eval x=.bool b:=(h.pQ hx).a6H
theorem Rel.d1k(h:Rel P G base R μ st a w)(hx:st.eval G x=.rQ):∃b,a.eval x=.bool b:=by
 have:=h.qQ hx;generalize a.eval x=v at this;cases this with
 |rQ b=>exact⟨b,rfl⟩
theorem Rel.b1m(h:Rel P G base R μ st a w){s:List UInt8}(hx:st.eval G x=.d (.str s)):a.eval x=.string ⟨s.toArray⟩:=(h.pQ hx).vR
theorem Rel.d5s(h:Rel P G base R μ st a w)(hx:st.eval G x=.it k):a.eval x=.pointer (some ⟨μ k,0,none⟩):=(h.qQ hx).e6V
theorem Rel.b6c(h:Rel P G base R μ st a w){f:FuncId}(hx:st.eval G x=.fn f):a.eval x=.func (.func f) #[] #[]:=(h.qQ hx).e6W
end
theorem d5t{c y:Operand}(ho:o.op=.pick c x y)(h:b5Z G c x y st=some out):wM P G o st out:=by
 unfold b5Z at h;split at h<;>simp at h;rename_i t hc;subst h;refine bR λbase R μ a w hr=>⟨if t then a.eval x else a.eval y,?_,?_,trivial⟩
 .simp[execOp,ho,hr.a2f hc,asBool]
 .cases t
  .exact hr.eval y
  .exact hr.eval x
variable{t u:TypeId}
theorem c4V(ho:o.op=.load t x)(h:b3V P G t x st=some out):wM P G o st out:=by
 unfold b3V at h;split at h
 .rename_i k off hx;split at h
  .rename_i cs hk;simp only[g2Y]at h;obtain⟨y,hy,rfl⟩:=h;refine bR λbase R μ a w hr=>?_;obtain⟨_,_,hob⟩:=hr.mE k _ hk;have dD:=(b3b.c2j hob).drop off;rw[Nat.zero_add]at dD;obtain⟨v,h1,h2,h3⟩:=zZ (P:=P) dD hy;refine⟨v,?_,h2,?_⟩
   .simp[execOp,ho,hr.eJ hx,Instr.loadAt,Instr.sureAddr,h1]
   .unfold uQ;split
    .rename_i es;exact h3 es rfl
    .trivial
  .cases h
 .rename_i cs hx;simp only[g2Y]at h;obtain⟨y,hy,rfl⟩:=h;refine bR λbase R μ a w hr=>?_;obtain⟨b,off,he,dD⟩:=(hr.qQ hx).a6I;obtain⟨v,h1,h2,h3⟩:=a6d (P:=P) dD.e6U hy;exact⟨v,by simp[execOp,ho,he,Instr.loadAt,Instr.sureAddr,h1],.d _ _ h2,trivial⟩
 .cases h
theorem c2l(ho:o.op=.nilCheck x)(h:xR G x st=some out):wM P G o st out:=by
 unfold xR at h;split at h<;>simp at h<;>subst h
 .rename_i k off hx;exact bR λbase R μ a w hr=>⟨a.eval x,by simp[execOp,ho,hr.eJ hx],hr.qQ hx,trivial⟩
 .rename_i cs hx;refine bR λbase R μ a w hr=>⟨a.eval x,?_,hr.qQ hx,trivial⟩;obtain⟨b,off,he,dD⟩:=(hr.qQ hx).a6I;simp[execOp,ho,he]
 .rename_i f hx;exact bR λbase R μ a w hr=>⟨a.eval x,by simp[execOp,ho,hr.b6c hx],hr.qQ hx,trivial⟩
 .rename_i f cs hx;refine bR λbase R μ a w hr=>⟨a.eval x,?_,hr.qQ hx,trivial⟩;obtain⟨vs,he,_⟩:=(hr.qQ hx).b1l;simp[execOp,ho,he]
theorem e6X{op:UnOp}(ho:o.op=.unOp op t x)(h:vUn G op x st=some out):wM P G o st out:=by
 unfold vUn at h;split at h
 .rename_i y hx;simp only[g2Y]at h;obtain⟨c,hc,rfl⟩:=h;unfold c8J at hc;split at hc<;>simp only[g3f,reduceCtorEq]at hc<;>subst hc
  .rename_i k n;exact bR λbase R μ a w hr=>⟨.int k (k.wrap (0-n)),by simp[execOp,ho,hr.yL hx,Op.unary,Op.intArith],.d _ _ (.int _ _),trivial⟩
  .rename_i b;exact bR λbase R μ a w hr=>⟨.bool !b,by simp[execOp,ho,hr.a2f hx,Op.unary],.d _ _ (.bool _),trivial⟩
 .cases h
theorem c4W(ho:o.op=.extract x i)(h:a2b G x i st=some out):wM P G o st out:=by
 unfold a2b at h;split at h
 .rename_i ds hx;simp only[g2Y]at h;obtain⟨y,hy,rfl⟩:=h;refine bR λbase R μ a w hr=>?_;obtain⟨vs,he,mI,hv⟩:=(hr.qQ hx).e0U;have aG:i<vs.size:=by rw[mI];exact(g3a.1 hy).1
  exact⟨vs.getD i undef,by simp[execOp,ho,he,Instr.extract,aG],.d _ _ (hv i y hy),trivial⟩
 .cases h
theorem yM(h:aO P t i=some (off,u)):∃fs f,P.underlying t=some (.struct fs)/\fs[i]? =some f/\f.offset=off/\f.type=u:=by
 unfold aO at h;split at h
 .rename_i fs hfs;simp only[g2Y]at h;obtain⟨f,hf,he⟩:=h;simp at he;exact⟨fs,f,hfs,hf,he.1,he.2⟩
 .cases h
theorem c4X{cs:Array Value}{y:D}(mI:cs.size=ds.length)(hv:∀(i:Nat)(d:D),ds[i]? =some d->d.one=true/\V R w (cs.getD i undef) d)(ht:takeD P u (ds.drop off)=some y):∃v,(part u cs off).run P w=.ok v w/\V R w v y:=by
 unfold takeD at ht;split at ht
 .rename_i d hd;split at ht
  .rename_i b0a;split at ht
   .rename_i hle;simp at ht;subst ht;rw[g3Y]at hle;by_cases h0:P.cellsOf u=0
    .refine⟨.agg (cs.extract off (off+P.cellsOf u)),?_,?_⟩
     .unfold part;simp only[g3O,tO hd,g3Q,b0a,if_true,run_sizeOf hd,Sem.run_pure]
     .rw[h0];exact .agg _ _ (by simp;omega) (by simp) (by simp)
    .refine⟨.agg (cs.extract off (off+P.cellsOf u)),?_,.agg _ _ (by simp;omega) (λi d hi=>?_) (λi d hi=>?_)⟩
     .unfold part;simp only[g3O,tO hd,g3Q,b0a,if_true,run_sizeOf hd,Sem.run_pure]
     .rw[g3F]at hi;split at hi
      .rw[g3s]at hi;exact(hv _ d hi).1
      .cases hi
     .rw[g3F]at hi;split at hi
      .rename_i aG;rw[g3s]at hi;have:=(hv _ d hi).2;have a6p:off+i<cs.size:=by rw[mI];exact(g3a.1 hi).1
       have hge:(cs.extract off (off+P.cellsOf u)).getD i undef=cs.getD (off+i) undef:=by
        simp[g3b,Array.getElem?_extract,a6p];rw[if_pos (by omega)]
        rfl
       rw[hge];exact this
      .cases hi
   .cases ht
  .rename_i b0a;have h0:ds[off]? =some y:=by rw[List.head?_eq_getElem?,g3s]at ht;simpa using ht
   have aG:off<cs.size:=by rw[mI];exact(g3a.1 h0).1
   refine⟨cs.getD off undef,?_,(hv off y h0).2⟩;unfold part;simp only[g3O,tO hd,g3Q,b0a,g3t,if_false];simp[aG]
 .cases ht
theorem d2H(ho:o.op=.field t x i)(h:a9W P G t x i st=some out):wM P G o st out:=by
 unfold a9W at h;split at h
 .rename_i cs off u hx hf;simp only[g2Y]at h;obtain⟨y,hy,rfl⟩:=h;obtain⟨fs,f,h1,h2,rfl,rfl⟩:=yM hf;refine bR λbase R μ a w hr=>?_;obtain⟨vs,he,mI,hv⟩:=(hr.pQ hx).a5d;obtain⟨v,hp,hvy⟩:=c4X (P:=P) mI hv hy;exact⟨v,by simp[execOp,ho,he,Instr.field,g3P h1,h2,asAgg,hp],.d _ _ hvy,trivial⟩
 .cases h
theorem b6d{n:D}{m j:Nat}(h:idx n m=some j):∃k i,n=.int k i/\0<=i/\i<m/\j=i.toNat/\j<m:=by
 unfold idx at h;split at h
 .rename_i k i;split at h
  .rename_i hi;simp at h;exact⟨k,i,rfl,hi.1,hi.2,h.symm,by omega⟩
  .cases h
 .cases h
theorem d2I{i:Operand}(ho:o.op=.index t x i)(h:a9X P G t x i st=some out):wM P G o st out:=by
 unfold a9X at h;split at h
 .rename_i s n hu hx hi;simp only[g3n,g2Y]at h;obtain⟨j,hj,b,hb,rfl⟩:=h;obtain⟨k,m,rfl,h0,h1,rfl,_⟩:=b6d hj;refine bR λbase R μ a w hr=>⟨.int .u8 b.toNat,?_,.d _ _ (.int _ _),trivial⟩;have hg:(⟨s.toArray⟩:ByteArray)[m.toNat]? =some b:=by
   have hl:m.toNat<s.length:=by omega
   have:(⟨s.toArray⟩:ByteArray)[m.toNat]? =s[m.toNat]? :=by simp only[getElem?_def,ByteArray.size,ByteArray.getElem_eq_getElem_data];simp
   rw[this];exact hb
  simp[execOp,ho,hr.b1m hx,hr.yL hi,Instr.index,g3P hu,asIntOf,h0,hg]
 .rename_i len e cs n hu hx hi;simp only[g3n,g2Y]at h;obtain⟨j,hj,y,hy,rfl⟩:=h;obtain⟨k,m,rfl,h0,h1,rfl,_⟩:=b6d hj;refine bR λbase R μ a w hr=>?_;obtain⟨vs,he,mI,hv⟩:=(hr.pQ hx).a5d;obtain⟨v,hp,hvy⟩:=c4X (P:=P) mI hv hy;refine⟨v,?_,.d _ _ hvy,trivial⟩;have hd:∃d,P.underlying e=some d:=by
   unfold takeD at hy;split at hy
   .rename_i d hd;exact⟨d,hd⟩
   .cases hy
  obtain⟨d,hd⟩:=hd;simp[execOp,ho,he,hr.yL hi,Instr.index,g3P hu,asIntOf,h0,h1,run_sizeOf hd,hp]
 .cases h
end
end Go.VM
namespace Go.VM
open Go Go.RowKit
section
variable {P:Program} {G:GT} {st:St} {out:Out}
variable {base:dU} {R:Nat->Nat->Prop} {μ:Nat->Nat} {a:Act} {w:World}
variable{p q:D}{u v:Value}{i x:Operand}{t:TypeId}
theorem d5u{op:BinOp}{y:Operand}{c:D}(hu:V R w u p)(hv:V R w v q)(h:e0O op p q=some c):
  ∃r,(do eqGuard op t x y u v;binOp op t u v:Sem Value).run P w=.ok r w/\V R w r c:=by
 unfold e0O at h;split at h
 .rename_i k m k' n;obtain rfl:=hu.a1t;obtain rfl:=hv.a1t;split at h
  .cases h
  .rename_i hk;simp only[ne_eq,Decidable.not_not]at hk;subst hk;have hg:∀o,(eqGuard o t x y (.int k m) (.int k n)).run P w=.ok () w:=λo=>by cases o<;>simp[eqGuard]
   cases op<;>simp only[g3f,reduceCtorEq]at h
   case quo=>
    split at h
    .cases h
    .rename_i hz;simp only[g3f]at h;subst h;exact⟨_,by simp only[g3O,hg,g3Q];simp[binOp,Op.intDiv,hz],.int _ _⟩
   case rem=>
    split at h
    .cases h
    .rename_i hz;simp only[g3f]at h;subst h;exact⟨_,by simp only[g3O,hg,g3Q];simp[binOp,Op.intDiv,hz],.int _ _⟩
   all_goals subst h
   case add=>exact⟨_,by simp only[g3O,hg,g3Q];simp[binOp,Op.intArith],.int _ _⟩
   case sub=>exact⟨_,by simp only[g3O,hg,g3Q];simp[binOp,Op.intArith],.int _ _⟩
   case mul=>exact⟨_,by simp only[g3O,hg,g3Q];simp[binOp,Op.intArith],.int _ _⟩
   all_goals exact⟨_,by simp only[g3O,hg,g3Q];simp only[binOp,ne_eq,not_true_eq_false,if_false,Op.intCmp,Sem.run_pure],.bool _⟩
 .rename_i m n;obtain rfl:=hu.vR;obtain rfl:=hv.vR;have hg:∀o,(eqGuard o t x y (.string ⟨m.toArray⟩) (.string ⟨n.toArray⟩)).run P w=.ok () w:=λo=>by cases o<;>simp[eqGuard]
  cases op<;>simp only[g3f,reduceCtorEq]at h
  case add=>
   split at h
   .rename_i hle;simp only[g3f]at h;subst h;refine⟨.string ⟨(m++n).toArray⟩,?_,.str _⟩;have hb:(⟨m.toArray⟩:ByteArray)++⟨n.toArray⟩=⟨(m++n).toArray⟩:=by apply ByteArray.ext;simp[ByteArray.data_append]
    have hs:¬(((⟨m.toArray⟩:ByteArray).size+(⟨n.toArray⟩:ByteArray).size:Nat):Int)>IntKind.i64.max:=by
     show ¬((m.toArray.size+n.toArray.size:Nat):Int)>9223372036854775807
     simp only[List.size_toArray];omega
    simp only[g3O,hg,g3Q];simp only[binOp,Op.stringOp,if_neg hs,Sem.run_pure,hb]
   .cases h
  all_goals subst h
  all_goals exact⟨_,by simp only[g3O,hg,g3Q];simp only[binOp,Op.stringOp,Sem.run_pure,ByteArray.toList_mk],.bool _⟩
 .cases h
theorem d2J{d:TypeDesc}{r:Bool}(n:Nat)(ht:P.underlying t=some d)(hd:zV d=true)(hu:V R w u p)(hv:V R w v q)(h:b5Y p q=some r)(hk:a1r P t p=true):(Op.equalIn (n+1) t u v).run P w=.ok r w:=by
 unfold b5Y at h;split at h
 .rename_i k m k' n';obtain rfl:=hu.a1t;obtain rfl:=hv.a1t;split at h<;>simp at h;rename_i yK;subst yK h;unfold a1r at hk;rw[ht]at hk;cases d<;>simp[a8j]at hk;exact run_equalIn_int w n t k _ m n' ht
 .obtain rfl:=hu.vR;obtain rfl:=hv.vR;simp at h;subst h;unfold a1r at hk;rw[ht]at hk;cases d<;>simp[a8j]at hk;rw[run_equalIn_string w n t _ _ ht,ByteArray.toList_mk,ByteArray.toList_mk]
 .obtain rfl:=hu.a6H;obtain rfl:=hv.a6H;simp at h;subst h;unfold a1r at hk;rw[ht]at hk;cases d<;>simp[a8j]at hk;exact run_equalIn_bool w n t _ _ ht
 .cases h
theorem rU(h:(P.info? t).isSome=true)(w:World):(sizeOf t).run P w=.ok (P.cellsOf t) w:=by
 cases hi:P.info? t with
 |none=>simp[hi]at h
 |some i=>simp[sizeOf,typeInfo,hi,Program.cellsOf]
theorem a0Z(w:World):∀(fs:List Field),(∀f∈fs,(P.info? f.type).isSome=true)->
  (fs.mapM (λf=>do pure (f.offset, <- sizeOf f.type)):Sem (List (Nat×Nat))).run P w=.ok (fs.map λf=>(f.offset,P.cellsOf f.type)) w
 |[],_=>by simp
 |f::fs,h=>by have h1:=rU (h f (by simp)) w;have h2:=a0Z w fs (λf hf=>h f (by simp[hf]));simp only[List.mapM_cons,g3O,h1,g3Q,Sem.run_pure,h2,List.map_cons]
theorem b6e{z:List D}(h:mF P t=some z)(w:World):∃v,(zeroValue t).run P w=.ok v w/\v.cells.size=z.length/\(∀(i:Nat)(d:D),z[i]? =some d->d.one=true/\V R w (v.cells.getD i undef) d):=by
 unfold mF at h;cases hi:P.info? t with
 |none=>simp[hi]at h
 |some i=>
  cases hz:i.zero with
  |none=>simp[hi,hz]at h
  |some v=>simp[hi,hz]at h;obtain⟨h1,h2⟩:=a6G (R:=R) (w:=w) h;refine⟨v,by simp[zeroValue,typeInfo,hi,hz],by simpa using h1,λj d hj=>⟨(h2 j d hj).2,?_⟩⟩;have:=(h2 j d hj).1;simpa[g3b,List.getD]using this
theorem a0v(off:Nat):∀(l:List Value)(k:Nat)(cs:Array Value)(i:Nat),((l.zipIdx k).foldl (λcs (x:Value×Nat)=>cs.setIfInBounds (off+x.2) x.1) cs)[i]? =
  if off+k<=i/\i<off+k+l.length/\i<cs.size then l[i-(off+k)]? else cs[i]?
 |[],k,cs,i=>by simp;omega
 |v::l,k,cs,i=>by
  simp only[List.zipIdx_cons,List.foldl_cons];rw[a0v off l (k+1) _ i];simp only[Array.size_setIfInBounds,List.length_cons];by_cases h1:i=off+k
  .subst h1;rw[if_neg (by omega)];by_cases h2:off+k<cs.size
   .rw[if_pos ⟨by omega,by omega,h2⟩];simp[h2]
   .rw[if_neg (by omega)];simp[h2]
  .rw[g3Z (by omega)];by_cases h2:off+(k+1)<=i/\i<off+(k+1)+l.length/\i<cs.size
   .rw[if_pos h2,if_pos ⟨by omega,by omega,h2.2.2⟩];have:i-(off+k)=(i-(off+(k+1)))+1:=by omega
    rw[this];simp
   .rw[if_neg h2,if_neg (by omega)]
theorem fold_size(off:Nat):∀(l:List (Value×Nat))(cs:Array Value),(l.foldl (λcs (x:Value×Nat)=>cs.setIfInBounds (off+x.2) x.1) cs).size=cs.size
 |[],cs=>rfl
 |_::l,cs=>by simp only[List.foldl_cons];rw[fold_size off l];simp
theorem d1l{t:TypeId}{fs:Array Field}(ht:P.underlying t=some (.struct fs)){pl:Nat->Option (Nat×Nat)}(hpl:∀i,pl i=(fs[i]?).map λf=>(f.offset,P.cellsOf f.type)):
  ∀(ps:List (Nat×Value))(qs:List (Nat×D))(cs:Array Value)(z r:List D),ps.length=qs.length->(∀(i:Nat)(p:Nat×Value)(q:Nat×D),ps[i]? =some p->qs[i]? =some q->p.1=q.1/\V R w p.2 q.2)->
   cs.size=z.length->(∀(i:Nat)(d:D),z[i]? =some d->d.one=true/\V R w (cs.getD i undef) d)->c0p P t z qs=some r->
   ∃xG,Instr.fill pl cs ps=some xG/\xG.size=r.length/\(∀(i:Nat)(d:D),r[i]? =some d->d.one=true/\V R w (xG.getD i undef) d)
 |[],[],cs,z,r,_,_,mI,hz,h=>by simp[c0p]at h;subst h;exact⟨cs,rfl,mI,hz⟩
 |[],_::_,_,_,_,hl,_,_,_,_=>by simp at hl
 |_::_,[],_,_,_,hl,_,_,_,_=>by simp at hl
 |(i,v)::ps,(j,d)::qs,cs,z,r,hl,hp,mI,hz,h=>by
  obtain⟨hij,hvd⟩:=hp 0 _ _ rfl rfl
  change i=j at hij
  subst hij
  change V R w v d at hvd
  simp only[c0p]at h;cases hf:aO P t i with
  |none=>simp[hf]at h
  |some p=>
   obtain⟨off,u⟩:=p;obtain⟨fs',f,h1,h2,rfl,rfl⟩:=yM hf;rw[ht]at h1;cases h1;simp only[hf]at h;split at h
   .rename_i hc;obtain⟨sN,hcv⟩:=hvd.cells;have c4Y:Instr.fill pl cs ((i,v)::ps)=Instr.fill pl (v.cells.zipIdx.foldl (λcs (c,j)=>cs.setIfInBounds (f.offset+j) c) cs) ps:=by
     have:(decide (v.cells.size≠P.cellsOf f.type)||decide (f.offset+v.cells.size>cs.size))=false:=by rw[sN,mI];simp;omega
     simp only[Instr.fill,hpl,h2,Option.map_some,this,g3t,if_false]
    rw[c4Y];have d5v:(v.cells.zipIdx.foldl (λcs (c,j)=>cs.setIfInBounds (f.offset+j) c) cs)=(v.cells.toList.zipIdx 0).foldl (λcs (x:Value×Nat)=>cs.setIfInBounds (f.offset+x.2) x.1) cs:=by rw[<-Array.foldl_toList,Array.toList_zipIdx]
    rw[d5v];refine d1l ht hpl ps qs _ (overwrite z f.offset d.cells) r (by simpa using hl) (λk p q hp' hq'=>hp (k+1) p q (by simpa using hp') (by simpa using hq')) ?_ ?_ h
    .rw[fold_size,mI];simp only[overwrite,g3K,g3L,g3Y];omega
    .intro k c hk;rw[g3b,a0v];simp only[Nat.add_zero,Array.length_toList];simp only[overwrite]at hk;by_cases rZ:k<f.offset
     .rw[List.append_assoc,g3k (by simp;omega),g3F,if_pos rZ]at hk;rw[if_neg (by omega)];have:=hz k c hk
      rwa[g3b]at this
     .by_cases hhi:k<f.offset+d.cells.length
      .rw[List.append_assoc,g3h (by simp;omega),g3k (by simp;omega)]at hk;have a5e:min f.offset z.length=f.offset:=by omega
       simp only[g3L,a5e]at hk;rw[if_pos (by rw[sN,mI];omega)];have:=hcv _ c hk;simpa[g3b]using this
      .rw[g3h (by simp;omega)]at hk;simp only[g3K,g3L,g3s]at hk;have a5e:min f.offset z.length=f.offset:=by omega
       rw[a5e,show f.offset+d.cells.length+(k-(f.offset+d.cells.length))=k by omega]at hk;rw[if_neg (by rw[sN];omega)];have:=hz k c hk
       rwa[g3b]at this
   .cases h
def c8P(R:Nat->Nat->Prop)(μ:Nat->Nat)(w:World)(v:Value)(cs:List DV):Prop:=v.cells.size=cs.length/\∀(i:Nat)(c:DV),cs[i]? =some c->c.cell=true/\TV R μ w (v.cells.getD i undef) c/\(v.cells.getD i undef).oneCell'=true
theorem c4Z{t:TypeId}{fs:Array Field}(ht:P.underlying t=some (.struct fs)){pl:Nat->Option (Nat×Nat)}(hpl:∀i,pl i=(fs[i]?).map λf=>(f.offset,P.cellsOf f.type)):
  ∀(ps:List (Nat×Value))(qs:List (Nat×List DV))(cs:Array Value)(z r:List DV),ps.length=qs.length->(∀(i:Nat)(p:Nat×Value)(q:Nat×List DV),ps[i]? =some p->qs[i]? =some q->p.1=q.1/\c8P R μ w p.2 q.2)->
   cs.size=z.length->(∀(i:Nat)(d:DV),z[i]? =some d->d.cell=true/\TV R μ w (cs.getD i undef) d/\(cs.getD i undef).oneCell'=true)->b1h P t z qs=some r->
   ∃xG,Instr.fill pl cs ps=some xG/\xG.size=r.length/\(∀(i:Nat)(d:DV),r[i]? =some d->d.cell=true/\TV R μ w (xG.getD i undef) d/\(xG.getD i undef).oneCell'=true)
 |[],[],cs,z,r,_,_,mI,hz,h=>by simp[b1h]at h;subst h;exact⟨cs,rfl,mI,hz⟩
 |[],_::_,_,_,_,hl,_,_,_,_=>by simp at hl
 |_::_,[],_,_,_,hl,_,_,_,_=>by simp at hl
 |(i,v)::ps,(j,d)::qs,cs,z,r,hl,hp,mI,hz,h=>by
  obtain⟨hij,hvd⟩:=hp 0 _ _ rfl rfl
  change i=j at hij
  subst hij
  change c8P R μ w v d at hvd
  simp only[b1h]at h;cases hf:aO P t i with
  |none=>simp[hf]at h
  |some p=>
   obtain⟨off,u⟩:=p;obtain⟨fs',f,h1,h2,rfl,rfl⟩:=yM hf;rw[ht]at h1;cases h1;simp only[hf]at h;split at h
   .rename_i hc;obtain⟨sN,hcv⟩:=hvd;have c4Y:Instr.fill pl cs ((i,v)::ps)=Instr.fill pl (v.cells.zipIdx.foldl (λcs (c,j)=>cs.setIfInBounds (f.offset+j) c) cs) ps:=by
     have:(decide (v.cells.size≠P.cellsOf f.type)||decide (f.offset+v.cells.size>cs.size))=false:=by rw[sN,mI];simp;omega
     simp only[Instr.fill,hpl,h2,Option.map_some,this,g3t,if_false]
    rw[c4Y];have d5v:(v.cells.zipIdx.foldl (λcs (c,j)=>cs.setIfInBounds (f.offset+j) c) cs)=(v.cells.toList.zipIdx 0).foldl (λcs (x:Value×Nat)=>cs.setIfInBounds (f.offset+x.2) x.1) cs:=by rw[<-Array.foldl_toList,Array.toList_zipIdx]
    rw[d5v];refine c4Z ht hpl ps qs _ (overwrite z f.offset d) r (by simpa using hl) (λk p q hp' hq'=>hp (k+1) p q (by simpa using hp') (by simpa using hq')) ?_ ?_ h
    .rw[fold_size,mI];simp only[overwrite,g3K,g3L,g3Y];omega
    .intro k c hk;rw[g3b,a0v];simp only[Nat.add_zero,Array.length_toList];simp only[overwrite]at hk;by_cases rZ:k<f.offset
     .rw[List.append_assoc,g3k (by simp;omega),g3F,if_pos rZ]at hk;rw[if_neg (by omega)];have:=hz k c hk
      rwa[g3b]at this
     .by_cases hhi:k<f.offset+d.length
      .rw[List.append_assoc,g3h (by simp;omega),g3k (by simp;omega)]at hk;have a5e:min f.offset z.length=f.offset:=by omega
       simp only[g3L,a5e]at hk;rw[if_pos (by rw[sN,mI];omega)];have:=hcv _ c hk;simpa[g3b]using this
      .rw[g3h (by simp;omega)]at hk;simp only[g3K,g3L,g3s]at hk;have a5e:min f.offset z.length=f.offset:=by omega
       rw[a5e,show f.offset+d.length+(k-(f.offset+d.length))=k by omega]at hk;rw[if_neg (by rw[sN];omega)];have:=hz k c hk
       rwa[g3b]at this
   .cases h
theorem a6J(hr:Rel P G base R μ st a w):∀{l:List (Nat×Operand)}{qs:List (Nat×D)},a3J G st l=some qs->
  l.length=qs.length/\∀(i:Nat)(p:Nat×Value)(q:Nat×D),(l.map λx=>(x.1,a.eval x.2))[i]? =some p->qs[i]? =some q->p.1=q.1/\V R w p.2 q.2
 |[],qs,h=>by simp[a3J]at h;subst h;simp
 |(j,x)::l,qs,h=>by
  simp only[a3J]at h;split at h
  .rename_i y ds hy hds;simp at h;subst h;obtain⟨h1,h2⟩:=a6J hr hds;refine⟨by simp[h1],λi p q hp hq=>?_⟩;cases i with
   |zero=>simp at hp hq;subst hp hq;exact⟨rfl,hr.pQ hy⟩
   |succ i=>simp at hp hq;exact h2 i p q (by simpa using hp) hq
  .cases h
theorem b3Z(hr:Rel P G base R μ st a w):∀{l:List (Nat×Operand)}{qs:List (Nat×List DV)},a0W G st l=some qs->
  l.length=qs.length/\∀(i:Nat)(p:Nat×Value)(q:Nat×List DV),(l.map λx=>(x.1,a.eval x.2))[i]? =some p->qs[i]? =some q->p.1=q.1/\c8P R μ w p.2 q.2
 |[],qs,h=>by simp[a0W]at h;subst h;simp
 |(j,x)::l,qs,h=>by
  simp only[a0W]at h;split at h
  .rename_i y ds hy hds;simp at h;subst h;obtain⟨h1,h2⟩:=b3Z hr hds;refine⟨by simp[h1],λi p q hp hq=>?_⟩;cases i with
   |zero=>simp at hp hq;subst hp hq;exact⟨rfl,a4s (hr.eval x) hy⟩
   |succ i=>simp at hp hq;exact h2 i p q (by simpa using hp) hq
  .cases h
theorem c8Q{z:List DV}(h:c4R P t=some z)(w:World):∃v,(zeroValue t).run P w=.ok v w/\v.cells.size=z.length/\(∀(i:Nat)(d:DV),z[i]? =some d->d.cell=true/\TV R μ w (v.cells.getD i undef) d/\(v.cells.getD i undef).oneCell'=true):=by
 unfold c4R at h;cases hi:P.info? t with
 |none=>simp[hi]at h
 |some i=>
  cases hz:i.zero with
  |none=>simp[hi,hz]at h
  |some v=>
   simp only[hi,hz,Option.bind_some]at h;split at h
   .rename_i eS;cases h;refine⟨v,by simp[zeroValue,typeInfo,hi,hz],by simp,λj d hj=>?_⟩;rw[g3j]at hj;obtain⟨y,hy,rfl⟩:=g2Y.1 hj;have he:v.cells.getD j undef=y:=by
     have:v.cells[j]? =some y:=by simpa using hy
     simp[g3b,this]
    have h1:=g3c.1 eS y (g3e hy);rw[he];unfold cellOf;split
    .rename_i x hx;exact⟨(zY (R:=R) (w:=w) hx).2,.d _ _ (zY hx).1,h1⟩
    .exact⟨rfl,.undef _,h1⟩
   .cases h
variable{o:Oper}{parts:Array (Nat×Operand)}
theorem c8R(ho:o.op=.build t parts)(hs:dV P t=true)(h:a8l P G t parts st=some out):wM P G o st out:=by
 unfold a8l at h;split at h
 .rename_i z ps hz hps;simp only[g2Y]at h;obtain⟨r,jD,rfl⟩:=h;unfold dV at hs;split at hs
  .rename_i fs hfs;refine bR λbase R μ a w hr=>?_;obtain⟨zv,hz1,hz2,hz3⟩:=c8Q (R:=R) (μ:=μ) hz w;obtain⟨hl,hp⟩:=b3Z hr hps;have hm:=a0Z w fs.toList (λf hf=>by simpa using g3c.1 hs f hf);obtain⟨xG,hc1,hc2,hc3⟩:=c4Z (R:=R) (μ:=μ) (w:=w) hfs (pl:=λi=>((fs.toList.map λf=>(f.offset,P.cellsOf f.type)).toArray)[i]?) (λi=>by simp)
    (parts.toList.map λx=>(x.1,a.eval x.2)) ps zv.cells z r (by simpa using hl) hp hz2 hz3 jD
   refine⟨.agg xG,?_,.ag _ _ hc2 (λi hi=>(hc3 i _ (g3d hi)).2.2) (λi d hi=>(hc3 i d hi).1) (λi d hi=>(hc3 i d hi).2.1),trivial⟩;have hmm:(fs.mapM (λf=>do pure (f.offset, <- sizeOf f.type)):Sem (Array (Nat×Nat))).run P w=.ok (fs.toList.map λf=>(f.offset,P.cellsOf f.type)).toArray w:=by rw[Array.mapM_eq_mapM_toList];simp only[Sem.run_map,hm,g3Q]
   have hpl:(parts.map λ(x:Nat×Operand)=>(x.1,a.eval x.2)).toList=parts.toList.map λx=>(x.1,a.eval x.2):=by simp
   simp only[execOp,ho,Instr.build,g3O,hz1,g3Q,g3P hfs,hmm,Sem.run_pure];rw[hpl,hc1]
   rfl
  .cases hs
 .cases h
theorem c0t(ho:o.op=.build t parts)(h:a9V P G t parts st=some out):wM P G o st out:=by
 unfold a9V at h;split at h
 .rename_i hs;have uO:=hs;split at h
  .rename_i z ps hz hps;simp only[g2Y]at h;obtain⟨r,jD,rfl⟩:=h;unfold dV at hs;split at hs
   .rename_i fs hfs;refine bR λbase R μ a w hr=>?_;obtain⟨zv,hz1,hz2,hz3⟩:=b6e (R:=R) hz w;obtain⟨hl,hp⟩:=a6J hr hps;have hm:=a0Z w fs.toList (λf hf=>by simpa using g3c.1 hs f hf);obtain⟨xG,hc1,hc2,hc3⟩:=d1l (R:=R) (w:=w) hfs (pl:=λi=>((fs.toList.map λf=>(f.offset,P.cellsOf f.type)).toArray)[i]?) (λi=>by simp)
     (parts.toList.map λx=>(x.1,a.eval x.2)) ps zv.cells z r (by simpa using hl) hp hz2 hz3 jD
    refine⟨.agg xG,?_,.d _ _ (.agg _ _ hc2 (λi d hi=>(hc3 i d hi).1) λi d hi=>(hc3 i d hi).2),trivial⟩;have hmm:(fs.mapM (λf=>do pure (f.offset, <- sizeOf f.type)):Sem (Array (Nat×Nat))).run P w=.ok (fs.toList.map λf=>(f.offset,P.cellsOf f.type)).toArray w:=by rw[Array.mapM_eq_mapM_toList];simp only[Sem.run_map,hm,g3Q]
    have hpl:(parts.map λ(x:Nat×Operand)=>(x.1,a.eval x.2)).toList=parts.toList.map λx=>(x.1,a.eval x.2):=by simp
    simp only[execOp,ho,Instr.build,g3O,hz1,g3Q,g3P hfs,hmm,Sem.run_pure];rw[hpl,hc1]
    rfl
   .cases hs
  .exact c8R ho uO h
 .cases h
theorem b3e(hr:Rel P G base R μ st a w){n:D}{m j:Nat}(hi:st.eval G i=.d n)(h:idx n m=some j):∃k,a.eval i=.int k j/\j<m:=by obtain⟨k,q,rfl,h0,h1,rfl,h2⟩:=b6d h;exact⟨k,by rw[hr.yL hi];congr 1;omega,h2⟩
theorem V.a1a{es:List (List D)}(h:V R w v (.sl es)):∃ao cap,v=.slice ao es.length cap/\es.length<=cap/\(es≠[]->∃b o size,ao=some ⟨b,o,none⟩/\0<size/\(∀e∈es,e.length=size)/\
  ∀(i:Nat)(e:List D),es[i]? =some e->Run R w b (o+i*size) e):=by
 cases h with
 |emp ao cap=>exact⟨ao,cap,rfl,Nat.zero_le _,λh=>absurd rfl h⟩
 |sl b o n cap size es f h1 h2 h3 h4 h5 h6 h7=>
  subst h1;refine⟨_,cap,rfl,h2,λ_=>⟨b,o,size,rfl,h3,h4,λi e hi j d hj=>?_⟩⟩;have yJ:i<es.length:=(g3a.1 hi).1;have hjl:j<size:=by rw[<-h4 e (g3e hi)];exact(g3a.1 hj).1
  obtain⟨q1,q2⟩:=h5 i j yJ hjl;exact⟨h6 i j e d hi hj,q1,f i j,q2,h7 i j e d hi hj⟩
theorem gE(h:P.cellsOf t≠0):(P.info? t).isSome=true:=by
 cases hi:P.info? t with
 |none=>simp[Program.cellsOf,hi]at h
 |some i=>rfl
theorem b9p(ho:o.op=.indexAddr t x i)(h:uS P G t x i st=some out):wM P G o st out:=by
 unfold uS at h;split at h
 .rename_i e es n hu hx hi;simp only[g3n]at h;obtain⟨j,hj,cs,sN,h⟩:=h;split at h<;>simp at h;rename_i hlen;subst h;refine bR λbase R μ a w hr=>?_;obtain⟨k,hk,hjl⟩:=b3e hr hi hj;obtain⟨ao,cap,hv,b6f,gK⟩:=(hr.pQ hx).a1a;obtain⟨b,off,size,rfl,hs0,hs1,dD⟩:=gK (by rintro rfl;simp at sN);have mI:size=P.cellsOf e:=by rw[<-hlen,hs1 cs (g3e sN)]
  have hso:=rU (gE (P:=P) (t:=e) (by omega)) w;refine⟨.pointer (some ⟨b,off+j*size,none⟩),?_,.ep _ _ _ (dD j cs sN),trivial⟩;simp[execOp,ho,hv,hk,Instr.indexAt,g3P hu,asIntOf,hjl,hso,pC,mI]
 .rename_i len e k off n hu hx hi;split at h
  .cases h
  .rename_i gK;simp only[g2Y]at h;obtain⟨j,hj,rfl⟩:=h;refine bR λbase R μ a w hr=>?_;obtain⟨q,hq,hjl⟩:=b3e hr hi hj;exact⟨.pointer (some ⟨μ k,off+j*P.cellsOf e,none⟩),by simp[execOp,ho,hr.eJ hx,hq,Instr.indexAt,g3P hu,asIntOf,Instr.sureAddr,hjl,rU (gE gK) w,pC],.ptr _ _,trivial⟩
 .rename_i len e cs n hu hx hi;split at h
  .cases h
  .rename_i gK;simp only[g2Y]at h;obtain⟨j,hj,rfl⟩:=h;refine bR λbase R μ a w hr=>?_;obtain⟨q,hq,hjl⟩:=b3e hr hi hj;obtain⟨b,off,he,dD⟩:=(hr.qQ hx).a6I;exact⟨.pointer (some ⟨b,off+j*P.cellsOf e,none⟩),by simp[execOp,ho,he,hq,Instr.indexAt,g3P hu,asIntOf,Instr.sureAddr,hjl,rU (gE gK) w,pC],.ep _ _ _ (dD.drop _),trivial⟩
 .cases h
theorem a2g(b o:Nat)(f:Field){i:TypeInfo}(hi:P.info? f.type=some i)(h:P.cellsOf f.type≠0):(fieldPlace ⟨b,o,none⟩ f).run P w=.ok ⟨b,o+f.offset,none⟩ w:=by
 have:¬i.size=0:=by simpa[Program.cellsOf,hi]using h
 simp[fieldPlace,sizeOf,typeInfo,hi,this,pC]
theorem b9q{i:Nat}(ho:o.op=.fieldAddr t x i)(h:uT P G t x i st=some out):wM P G o st out:=by
 unfold uT at h;split at h
 .rename_i off u hf;obtain⟨fs,f,h1,h2,rfl,rfl⟩:=yM hf;split at h
  .cases h
  .rename_i gK;have hi:∃i,P.info? f.type=some i:=by
    cases hi:P.info? f.type with
    |none=>simp[Program.cellsOf,hi]at gK
    |some i=>exact⟨i,rfl⟩
   obtain⟨ti,hti⟩:=hi;split at h<;>simp at h<;>subst h
   .rename_i k off hx;exact bR λbase R μ a w hr=>⟨.pointer (some ⟨μ k,off+f.offset,none⟩),by simp[execOp,ho,hr.eJ hx,Instr.fieldAt,g3P h1,h2,Instr.sureAddr,a2g (w:=w) (μ k) off f hti gK],.ptr _ _,trivial⟩
   .rename_i cs hx;refine bR λbase R μ a w hr=>?_;obtain⟨b,off,he,dD⟩:=(hr.qQ hx).a6I;exact⟨.pointer (some ⟨b,off+f.offset,none⟩),by simp[execOp,ho,he,Instr.fieldAt,g3P h1,h2,Instr.sureAddr,a2g (w:=w) b off f hti gK],.ep _ _ _ (dD.drop _),trivial⟩
 .cases h
end
end Go.VM
namespace Go.VM
open Go Go.RowKit
section
variable {P:Program} {G:GT} {st:St} {out:Out}
variable {base:dU} {R:Nat->Nat->Prop} {μ:Nat->Nat} {a:Act} {w:World}
theorem b4a(n:Nat){xs ys:Array Value}{ps qs:List D}(hxs:∀(i:Nat)(d:D),ps[i]? =some d->V R w (xs.getD i undef) d)(hys:∀(i:Nat)(d:D),qs[i]? =some d->V R w (ys.getD i undef) d)(hx:xs.size=ps.length)(hy:ys.size=qs.length):
  ∀(fs:List Field)(k:Nat)(r:Bool),(∀(i:Nat)(f:Field),fs[i]? =some f->f.name≠ "_" /\f.offset=k+i/\∃d,P.underlying f.type=some d/\zV d=true/\∀p,ps[k+i]? =some p->a1r P f.type p=true)->
   k+fs.length=ps.length->a1q (ps.drop k) (qs.drop k)=some r->(Op.eqFields (n+1) xs ys fs).run P w=.ok r w
 |[],k,r,_,hl,h=>by
  rw[List.drop_eq_nil_of_le (by simp at hl;omega)]at h;cases hq:qs.drop k with
  |nil=>rw[hq]at h;simp[a1q]at h;subst h;simp[Op.eqFields]
  |cons c cs=>rw[hq]at h;simp[a1q]at h
 |f::fs,k,r,hf,hl,h=>by
  obtain⟨hn,ho,d,hd,hs,hk⟩:=hf 0 f rfl;simp only[Nat.add_zero]at ho hk;have hkl:k<ps.length:=by simp at hl;omega
  rw[g3m hkl]at h;cases hq:qs.drop k with
  |nil=>rw[hq]at h;simp[a1q]at h
  |cons c cs=>
   have hkq:k<qs.length:=by have:=congrArg List.length hq;simp at this;omega
   rw[g3m hkq]at h;simp only[a1q]at h;split at h
   .rename_i x y hx1 hy1;simp at h;subst h;have v1:=hxs k ps[k] (by simp[hkl]);have v2:=hys k qs[k] (by simp[hkq]);have he:=d2J n hd hs v1 v2 hx1 (hk ps[k] (by simp[hkl]));have hp:∀(zs:Array Value),k<zs.size->(part f.type zs k).run P w=.ok (zs.getD k undef) w:=λzs hz=>by
     unfold part;simp only[g3O,tO hd,g3Q];have:qU d=false:=by cases d<;>simp_all [zV,qU]
     simp[this,hz]
    have ih:=b4a n hxs hys hx hy fs (k+1) y (λi f' hi=>by
     have:=hf (i+1) f' (by simpa using hi)
     rwa[show k+(i+1)=k+1+i by omega]at this) (by simp at hl;omega) hy1
    simp only[Op.eqFields,hn,ne_eq,not_false_eq_true,if_true,g3O,ho,hp xs (by rw[hx];exact hkl),hp ys (by rw[hy];exact hkq),g3Q,he];cases x
    .simp
    .simp[ih]
   .cases h
theorem a9j:∀(k:Nat)(fs:List Field)(ds:List TypeDesc)(ps:List D),a4n P k fs=some ds->a0H ds ps=true->
  fs.length=ps.length/\∀(i:Nat)(f:Field),fs[i]? =some f->f.name≠ "_" /\f.offset=k+i/\∃d,P.underlying f.type=some d/\zV d=true/\∀p,ps[i]? =some p->a1r P f.type p=true
 |k,[],ds,ps,h,hf=>by simp[a4n]at h;subst h;cases ps<;>simp[a0H]at hf;simp
 |k,f::fs,ds,ps,h,hf=>by
  simp only[a4n]at h;split at h
  .rename_i d ds' hd hds;split at h<;>simp at h;rename_i hc;subst h;cases ps with
   |nil=>simp[a0H]at hf
   |cons p ps=>
    simp only[a0H,g2Z]at hf;obtain⟨h1,h2⟩:=a9j (k+1) fs ds' ps hds hf.2;refine⟨by simp[h1],λi g hi=>?_⟩;cases i with
    |zero=>simp at hi;subst hi;exact⟨hc.1,by omega,d,hd,hc.2.2,λp' hp'=>by simp at hp';subst hp';simp[a1r,hd,hf.1]⟩
    |succ i=>simp at hi;obtain⟨q1,q2,q3⟩:=h2 i g hi;exact⟨q1,by omega,by simpa using q3⟩
  .cases h
variable{o:Oper}{dst src t u:TypeId}{x y:Operand}{op:BinOp}
theorem e0V(ho:o.op=.binOp op t x y u)(h:c8K P G op t x y st=some out):wM P G o st out:=by
 unfold c8K at h;split at h
 .rename_i p q hx hy;simp only[g2Y]at h;obtain⟨c,hc,rfl⟩:=h;refine bR λbase R μ a w hr=>?_;have hv:∃r,(do eqGuard op t x y (a.eval x) (a.eval y);binOp op t (a.eval x) (a.eval y):Sem Value).run P w=.ok r w/\V R w r c:=by
   have vx:=hr.pQ hx;have vy:=hr.pQ hy;unfold d5p at hc;split at hc
   .rename_i b1 b2;obtain he1:=vx.a6H;obtain he2:=vy.a6H;rw[he1,he2];split at hc<;>simp at hc<;>subst hc
    .rename_i hu;exact⟨.bool (b1==b2),by simp[eqGuard,binOp,run_equal_bool w t b1 b2 hu],.bool _⟩
    .rename_i hu;exact⟨.bool !(b1==b2),by simp[eqGuard,binOp,run_equal_bool w t b1 b2 hu],.bool _⟩
   .rename_i ps qs;split at hc
    .rename_i ds hfl;obtain⟨xs,he1,hs1,f5I⟩:=vx.a5d;obtain⟨ys,he2,hs2,f5J⟩:=vy.a5d;have hv1:=λi d hi=>(f5I i d hi).2;have hv2:=λi d hi=>(f5J i d hi).2;rw[he1,he2];unfold a4o at hfl;split at hfl
     .rename_i fs hfs;have hfl:(P.eqGuardType P.depth t=false/\P.stoodInHeld t=false)/\a4n P 0 fs.toList=some ds:=by
       split at hfl
       .rename_i h;exact⟨h,hfl⟩
       .cases hfl
      obtain⟨hg1,hg2⟩:=hfl.1;by_cases mO:a0H ds ps=true
      case neg=>rw[if_neg mO]at hc;cases hc
      rw[if_pos mO]at hc;have hfo:P.fieldsOf t=fs:=by simp[Program.fieldsOf,hfs]
      have dD:∀r,a1q ps qs=some r->(Op.equalIn 10000 t (.agg xs) (.agg ys)).run P w=.ok r w:=λr jD=>by rw[run_equalIn_struct w 9999 t xs ys (by rw[hfo];exact hfs) hg2,hfo];obtain⟨hl,hf'⟩:=a9j 0 fs.toList ds ps hfl.2 mO;exact b4a 9998 hv1 hv2 hs1 hs2 fs.toList 0 r (λi f hi=>by simpa using hf' i f hi) (by simpa using hl) (by simpa using jD)
      have hgd:(eqGuard op t x y (.agg xs) (.agg ys)).run P w=.ok () w:=run_eqGuard_agg w op t x y xs ys hg1;split at hc<;>simp at hc<;>subst hc
      .rename_i r jD;exact⟨.bool r,by simp only[g3O,hgd,g3Q,run_eql_struct,dD r jD],.bool _⟩
      .rename_i r jD;exact⟨.bool !r,by simp only[g3O,hgd,g3Q,run_neq_struct,dD r jD],.bool _⟩
     .cases hfl
    .cases hc
   .exact d5u vx vy hc
  obtain⟨r,h1,h2⟩:=hv;refine⟨r,?_,.d _ _ h2,trivial⟩;simp only[execOp,ho];rw[g3O,h1]
  rfl
 .cases h
theorem a9k(w:World){e:TypeId}(hu:P.underlying t=some (.slice e))(ao:Option Addr)(n cap:Nat):(Op.equal t (.slice ao n cap) (.slice none 0 0)).run P w=.ok ao.isNone w:=by unfold Op.equal;unfold Op.maxDepth;unfold Op.equalIn;simp only[g3O,g3P hu,g3Q];cases ao<;>rfl
variable{v:Value}{es:List (List D)}
theorem V.e4O(h:V R w v (.sl es)):∃ao n cap,v=.slice ao n cap/\(es.length≠0->ao.isNone=false):=by
 cases h with
 |emp ao cap=>exact⟨ao,0,cap,rfl,λh=>absurd rfl h⟩
 |sl b o n cap size es f=>exact⟨_,_,_,rfl,λ_=>rfl⟩
theorem c5a(ho:o.op=.binOp op t x y u)(hy:c2f y=true)(h:a2a P G op t x st=some out):wM P G o st out:=by
 have hy':y=.const (.slice none 0 0):=by
  unfold c2f at hy;split at hy
  .rfl
  .cases hy
 subst hy';have dD:∀(a:Act)(w:World)(e:TypeId)(ao:Option Addr)(n cap:Nat),P.underlying t=some (.slice e)->a.eval x=.slice ao n cap->
   (op=.eql->(execOp a.eval o).run P w=.ok (.value (.bool ao.isNone)) w)/\(op=.neq->(execOp a.eval o).run P w=.ok (.value (.bool !ao.isNone)) w):=λa w e ao n cap hu hx=>by
  have hc:a.eval (.const (.slice none 0 0))=.slice none 0 0:=rfl;constructor
  .rintro rfl;simp only[execOp,ho,hx,hc];simp[eqGuard,binOp,a9k w hu]
  .rintro rfl;simp only[execOp,ho,hx,hc];simp[eqGuard,binOp,a9k w hu]
 unfold a2a at h;split at h
 .rename_i e es hu hx;simp only[g3f]at h;subst h;refine bR λbase R μ a w hr=>?_;obtain⟨ao,n,cap,hv,gK⟩:=(hr.pQ hx).e4O;refine⟨_,(dD a w e ao n cap hu hv).1 rfl,?_,trivial⟩;by_cases h0:es.length=0
  .rw[if_pos h0];exact .rQ _
  .rw[if_neg h0,gK h0];exact .d _ _ (.bool _)
 .rename_i e es hu hx;simp only[g3f]at h;subst h;refine bR λbase R μ a w hr=>?_;obtain⟨ao,n,cap,hv,gK⟩:=(hr.pQ hx).e4O;refine⟨_,(dD a w e ao n cap hu hv).2 rfl,?_,trivial⟩;by_cases h0:es.length=0
  .rw[if_pos h0];exact .rQ _
  .rw[if_neg h0,gK h0];exact .d _ _ (.bool _)
 .rename_i e hu hx;simp only[g3f]at h;subst h;refine bR λbase R μ a w hr=>?_;obtain⟨ao,hv⟩:=(hr.pQ hx).mN;exact⟨_,(dD a w e ao 0 0 hu hv).1 rfl,.rQ _,trivial⟩
 .rename_i e hu hx;simp only[g3f]at h;subst h;refine bR λbase R μ a w hr=>?_;obtain⟨ao,hv⟩:=(hr.pQ hx).mN;exact⟨_,(dD a w e ao 0 0 hu hv).2 rfl,.rQ _,trivial⟩
 .cases h
theorem d5y(ho:o.op=.binOp op t x y u)(h:b6a P G op t x y st=some out):wM P G o st out:=by
 unfold b6a at h;split at h
 .exact c5a ho ‹_› h
 .exact e0V ho h
theorem d5z{p c:D}(hv:V R w v p)(h:d1f P src dst p=some c):∃r,(convert src dst v).run P w=.ok r w/\V R w r c:=by
 unfold d1f at h;split at h
 .rename_i d k k' n hs hd;simp only[g3f]at h;subst h;obtain rfl:=hv.a1t;exact⟨_,by simp[convert,g3P hs,g3P hd,Conv.intToInt],.int _ _⟩
 .rename_i d s hs hd;simp only[g3f]at h;subst h;obtain rfl:=hv.vR;exact⟨_,by simp[convert,g3P hs,g3P hd],.str _⟩
 .rename_i e es hs hd;split at h
  .rename_i hu;simp only[g2Y]at h;obtain⟨bs,hbs,rfl⟩:=h;unfold d2C at hu;split at hu<;>simp at hu;rename_i he;obtain⟨ao,cap,rfl,b6f,gK⟩:=hv.a1a;refine⟨.string ⟨bs.toArray⟩,?_,.str _⟩;rw[run_convert_bytes_string w src dst e _ _ _ hs he hd];have b6h:∀(es:List (List D))(bs:List UInt8),zX es=some bs->∃ns:List Int,es=ns.map (λn=>[D.int .u8 n])/\bs=ns.map λn=>UInt8.ofNat n.toNat:=by
    intro es
    induction es with
    |nil=>intro bs h;simp[zX]at h;subst h;exact⟨[],rfl,rfl⟩
    |cons c es ih=>
     intro bs h;unfold zX at h;split at h
     .rename_i heq;cases heq
     .rename_i n l heq;simp only[g2Y]at h;obtain⟨bs',hb',rfl⟩:=h;cases heq;obtain⟨ns,h1,h2⟩:=ih bs' hb';exact⟨n::ns,by simp[h1],by simp[h2]⟩
     .cases h
   obtain⟨ns,he1,he2⟩:=b6h es bs hbs;cases ao with
   |none=>
    have:es=[]:=by
     cases es with
     |nil=>rfl
     |cons c l=>obtain⟨b,o,size,h,_⟩:=gK (by simp);cases h
    subst this;simp[zX]at hbs;subst hbs;simp[Conv.bytesToString]
    rfl
   |some ad=>
    have hl:(loadCells ad es.length).run P w=.ok (ns.map (Value.int .u8)).toArray w:=by
     by_cases b5g:es=[]
     .subst b5g;have:ns=[]:=by simpa using he1.symm
      subst this;simp[loadCells,loadCellsFrom]
     .obtain⟨b,o,size,ha,hs0,hs1,dD⟩:=gK b5g;cases ha;have hn:∀j,j<ns.length->w.cell? ((⟨b,o,none⟩:Addr).add j)=some (.int .u8 (ns.getD j 0)):=λj hj=>by
       have hej:es[j]? =some [D.int .u8 (ns.getD j 0)]:=by rw[he1];simp[hj]
       have mI:size=1:=by rw[<-hs1 _ (g3e hej)];rfl
       obtain⟨_,_,v,hc,hv⟩:=dD j _ hej 0 _ rfl;rw[pC];rw[mI,Nat.mul_one,Nat.add_zero]at hc;rw[hc,hv.a1t]
      have hlen:es.length=(ns.map (Value.int .u8)).length:=by rw[he1];simp
      rw[hlen];exact run_loadCells_list (P:=P) w _ (ns.map (Value.int .u8)) (λj v hj=>by simp only[g3j,g2Y]at hj;obtain⟨n,hn',rfl⟩:=hj;have hjl:=(g3a.1 hn').1;rw[hn j hjl];simp[List.getD,hn'])
    rw[run_bytesToString w ad es.length cap ns hl];have f1M:∀(ns:List Int)(s:List UInt8),ns.foldl (λ(r:ByteArray) n=>r.push (UInt8.ofNat n.toNat)) ⟨s.toArray⟩=⟨(s++ns.map λn=>UInt8.ofNat n.toNat).toArray⟩:=by
     intro ns
     induction ns with
     |nil=>intro s;simp
     |cons n ns ih=>
      intro s;have hp:(⟨s.toArray⟩:ByteArray).push (UInt8.ofNat n.toNat)=⟨(s++[UInt8.ofNat n.toNat]).toArray⟩:=by apply ByteArray.ext;simp[ByteArray.push]
      simp only[List.foldl_cons,hp,ih];simp
    have:=f1M ns [];simp only[List.nil_append]at this;rw[he2, <- this]
    rfl
  .cases h
 .rename_i e hs hd;split at h
  .rename_i hu;simp only[g3f]at h;subst h;unfold d2C at hu;split at hu<;>simp at hu;rename_i he;obtain⟨ao,rfl⟩:=hv.mN;refine⟨.string ⟨#[]⟩,?_,.str []⟩;rw[run_convert_bytes_string w src dst e _ _ _ hs he hd];cases ao with
   |none=>simp[Conv.bytesToString];rfl
   |some ad=>
    rw[run_bytesToString w ad 0 0 [] (by simp[loadCells,loadCellsFrom])]
    rfl
  .cases h
 .cases h
theorem d5A(ho:o.op=.convert src dst x)(h:b6b P G src dst x st=some out):wM P G o st out:=by
 unfold b6b at h;split at h
 .rename_i p hx;simp only[g2Y]at h;obtain⟨c,hc,rfl⟩:=h;refine bR λbase R μ a w hr=>?_;obtain⟨r,h1,h2⟩:=d5z (hr.pQ hx) hc;exact⟨r,by simp[execOp,ho,h1],.d _ _ h2,trivial⟩
 .cases h
theorem a5f(s:List UInt8):(⟨s.toArray⟩:ByteArray).size=s.length:=by simp[ByteArray.size]
theorem e0X(ho:o.op=.call {callee:=.builtin .len,args:=#[x],argTypes:=#[t]})(h:d2D P G t x st=some out):wM P G o st out:=by
 unfold d2D at h;split at h
 .rename_i s hu hx;simp only[g3f]at h;subst h;exact bR λbase R μ a w hr=>⟨.int .i64 s.length,by simp[execOp,ho,resolve,invoke,builtin,Builtin.len_,g3P hu,hr.b1m hx,goInt,a5f],.d _ _ (.int _ _),trivial⟩
 .rename_i e es hu hx;simp only[g3f]at h;subst h;refine bR λbase R μ a w hr=>⟨.int .i64 es.length,?_,.d _ _ (.int _ _),trivial⟩;obtain⟨ao,cap,he,_⟩:=(hr.pQ hx).a1a;simp[execOp,ho,resolve,invoke,builtin,Builtin.len_,g3P hu,he,goInt]
 .rename_i e hu hx;simp only[g3f]at h;subst h;refine bR λbase R μ a w hr=>⟨.int .i64 0,?_,.d _ _ (.int _ _),trivial⟩;obtain⟨ao,he⟩:=(hr.pQ hx).mN;simp[execOp,ho,resolve,invoke,builtin,Builtin.len_,g3P hu,he,goInt]
 .cases h
def OB(x:Option Value)(d2B n j:Nat):Prop:=(x=none/\j=d2B)\/∃k,x=some (.int k (j:Int))/\j<=n
theorem pR(hr:Rel P G base R μ st a w){x:Option Operand}{d2B n j:Nat}(h:jR G st x d2B n=some j):OB (x.map a.eval) d2B n j:=by
 unfold jR at h;split at h
 .simp at h;exact .inl ⟨rfl,h.symm⟩
 .rename_i y;split at h
  .rename_i z hz;unfold bound at h;split at h
   .rename_i k i;split at h<;>simp at h;rename_i hb;subst h;refine .inr ⟨k,?_,by omega⟩;simp only[Option.map_some,hr.yL hz];congr 2;omega
   .cases h
  .cases h
theorem run_sliceBound(k:IntKind)(j n:Nat)(h:j<=n)(c:BoundsCode):(Instr.sliceBound (.int k (j:Int)) n c).run P w=.ok j w:=by simp[Instr.sliceBound,asIntOf,h]
theorem b0b(isSlice:Bool)(len cap l h:Nat){lo hi:Option Value}(hlen:len<=cap)(hh:OB hi len len h)(hl:OB lo 0 h l):(Instr.sliceBounds isSlice len cap lo hi none).run P w=.ok (l,h,cap) w/\l<=h/\h<=len:=by
 have h1:h<=len:=by rcases hh with⟨_,rfl⟩|⟨k,_,h⟩<;>omega
 have h2:l<=h:=by rcases hl with⟨_,rfl⟩|⟨k,_,h⟩<;>omega
 refine⟨?_,h2,h1⟩;rcases hh with⟨rfl,rfl⟩|⟨k,rfl,hk⟩
 .rcases hl with⟨rfl,rfl⟩|⟨k',rfl,hk'⟩
  .simp[Instr.sliceBounds]
  .simp[Instr.sliceBounds,run_sliceBound (P:=P) (w:=w) k' l h hk']
 .rcases hl with⟨rfl,rfl⟩|⟨k',rfl,hk'⟩
  .simp[Instr.sliceBounds,run_sliceBound (P:=P) (w:=w) k h cap (by omega)]
  .simp[Instr.sliceBounds,run_sliceBound (P:=P) (w:=w) k h cap (by omega),run_sliceBound (P:=P) (w:=w) k' l h hk']
theorem V.sub{ao:Option Addr}{cap:Nat}(hv:V R w (.slice ao es.length cap) (.sl es))(l h size:Nat)(hlh:l<=h)(hhl:h<=es.length)(b6f:es.length<=cap)(mI:∀e∈es,e.length=size):V R w (.slice (if cap=l then ao else ao.map (·.add (l*size))) (h-l) (cap-l)) (.sl ((es.take h).drop l)):=by
 have hlen:((es.take h).drop l).length=h-l:=by simp;omega
 by_cases hz:h-l=0
 .rw[hz];have:(es.take h).drop l=[]:=g3J (by rw[hlen,hz]);rw[this];exact .emp _ _
 .obtain⟨ao',e0Y,he,_,gK⟩:=hv.a1a;cases he;obtain⟨b,o,a3a,rfl,hs0,hs1,dD⟩:=gK (by rintro rfl;simp at hhl;omega);have yN:a3a=size:=by
   have h0l:0<es.length:=by omega
   have hm:es[0]? =some es[0]:=by simp
   have h1:=hs1 es[0] (g3e hm);have h2:=mI es[0] (g3e hm);omega
  subst yN;rw[if_neg (by omega)];simp only[Option.map_some,pC];have a6s:∀(i:Nat)(e:List D),((es.take h).drop l)[i]? =some e->es[l+i]? =some e:=λi e hi=>by
   rw[g3s,g3F]at hi;split at hi
   .exact hi
   .cases hi
  have rL:∀(i j:Nat),i<h-l->j<a3a->R b (o+l*a3a+i*a3a+j)/\∃v d,w.cell? ⟨b,o+l*a3a+i*a3a+j,none⟩=some v/\((es.take h).drop l)[i]?.bind (·[j]?)=some d/\d.one=true/\V R w v d:=λi j hi hj=>by
   have yJ:l+i<es.length:=by omega
   have hei:es[l+i]? =some es[l+i]:=by simp[yJ]
   have hjl:j<(es[l+i]).length:=by rw[hs1 _ (g3e hei)];exact hj
   obtain⟨h1,h2,v,h3,h4⟩:=dD (l+i) es[l+i] hei j (es[l+i])[j] (by simp[hjl]);have f5M:o+(l+i)*a3a+j=o+l*a3a+i*a3a+j:=by rw[Nat.add_mul];omega
   rw[f5M]at h2 h3;refine⟨h2,v,(es[l+i])[j],h3,?_,h1,h4⟩;rw[g3s,g3F,if_pos (by omega),hei];simp[hjl]
  refine .sl b (o+l*a3a) (h-l) (cap-l) a3a _ (λi j=>(w.cell? ⟨b,o+l*a3a+i*a3a+j,none⟩).getD undef) hlen.symm (by omega) hs0 (λe he=>?_) (λi j hi hj=>?_) (λi j e d he hd=>?_) (λi j e d he hd=>?_)
  .exact mI e (g4a (List.mem_of_mem_drop he))
  .obtain⟨h1,v,d,h2,_⟩:=rL i j hi hj;exact⟨h1,by rw[h2];rfl⟩
  .exact(dD _ e (a6s i e he) j d hd).1
  .have yJ:i<h-l:=by rw[<-hlen];exact(g3a.1 he).1
   have hjl:j<a3a:=by rw[<-mI e (g4a (List.mem_of_mem_drop (g3e he)))];exact(g3a.1 hd).1
   obtain⟨h1,v,d',h2,h3,h4,h5⟩:=rL i j yJ hjl;rw[he]at h3;simp only[Option.bind_some]at h3;rw[hd]at h3;cases h3;rw[h2];exact h5
theorem c5c(s:List UInt8)(l h:Nat):(⟨s.toArray⟩:ByteArray).extract l h=⟨((s.take h).drop l).toArray⟩:=by rw[ByteArray.extract_mk];congr 2;rw[List.drop_take]
end
end Go.VM
namespace Go.VM
open Go Go.RowKit
section
variable {P:Program} {G:GT} {st:St} {out:Out}
variable {base:dU} {R:Nat->Nat->Prop} {μ:Nat->Nat} {a:Act} {w:World}
variable{t:TypeId}
theorem yO{e:TypeId}(hu:P.underlying t=some (.slice e))(ao:Option Addr)(len cap:Nat)(lo hi mx:Option Value):
  (Instr.sliceAt t (.slice ao len cap) lo hi mx).run P w=((Instr.sliceBounds true len cap lo hi mx).run P w).andThen λb w'=>((sizeOf e).run P w').andThen λs w''=>.ok (.slice (if b.2.2=b.1 then ao else ao.map (·.add (b.1*s))) (b.2.1-b.1) (b.2.2-b.1)) w'':=by
 simp only[Instr.sliceAt,Instr.slice,g3O,g3P hu,g3Q,Sem.run_pure]
variable{hi lo:Option Operand}
theorem b4b(hr:Rel P G base R μ st a w)(len cap:Nat){m:Operand}(h1:lo.isNone=true)(h2:jR G st hi 1 0=some 0)(h3:jR G st (some m) 1 0=some 0):
  (Instr.sliceBounds true len cap (lo.map a.eval) (hi.map a.eval) ((some m).map a.eval)).run P w=.ok (0,0,0) w:=by
 have hh:=pR hr h2;have hm:=pR hr h3;have rZ:lo=none:=by cases lo<;>simp_all
 subst rZ;rcases hh with⟨_,h⟩|⟨k,hk,_⟩
 .cases h
 .rcases hm with⟨h,_⟩|⟨k',hk',_⟩
  .cases h
  .rw[hk,hk'];simp[Instr.sliceBounds,Instr.sliceBound,asIntOf]
theorem d2L{o:Oper}{x:Operand}{mx:Option Operand}(ho:o.op=.slice t x lo hi mx)(h:a9Y P G t x lo hi mx st=some out):wM P G o st out:=by
 unfold a9Y at h;split at h
 .rename_i s hu hx;simp only[g3n,g2Y]at h;obtain⟨hh,h1,l,h2,rfl⟩:=h;refine bR λbase R μ a w hr=>?_;have hb:=b0b (P:=P) (w:=w) false s.length s.length l hh (g3p _) (pR hr h1) (pR hr h2);refine⟨.string ⟨((s.take hh).drop l).toArray⟩,?_,.d _ _ (.str _),trivial⟩;simp[execOp,ho,hr.b1m hx,run_sliceAt_string (P:=P) w t _ _ _ _ hu,Instr.slice,g3P hu,a5f,hb.1,c5c]
 .rename_i e es hu hx;split at h
  .rename_i hc;simp only[g3n,g2Y]at h;obtain⟨hh,h1,l,h2,rfl⟩:=h;refine bR λbase R μ a w hr=>?_;have hv:=hr.pQ hx;obtain⟨ao,cap,he,b6f,_⟩:=hv.a1a;obtain⟨hb,hlh,hhl⟩:=b0b (P:=P) (w:=w) true es.length cap l hh b6f (pR hr h1) (pR hr h2);rw[he]at hv;refine⟨_,?_,.d _ _ (hv.sub l hh (P.cellsOf e) hlh hhl b6f (λc zM=>by simpa using g3c.1 hc.2 c zM)),trivial⟩;simp only[execOp,ho,g3O,he,yO hu,Option.map_none,hb,g3Q,rU (gE hc.1) w,Sem.run_pure]
  .cases h
 .rename_i e hu hx;split at h
  .rename_i hc;simp only[g3n,g2Y]at h;obtain⟨hh,h1,l,h2,rfl⟩:=h;refine bR λbase R μ a w hr=>?_;obtain⟨ao,he⟩:=(hr.pQ hx).mN;obtain⟨hb,hlh,hhl⟩:=b0b (P:=P) (w:=w) true 0 0 l hh (g3p _) (pR hr h1) (pR hr h2);have h0:hh=0:=by omega
   have h0':l=0:=by omega
   subst h0 h0';refine⟨.slice ao 0 0,?_,.d _ _ (.aE _),trivial⟩;simp[execOp,ho,he,yO hu,hb,rU (gE hc) w]
  .cases h
 .rename_i e es m hu hx;split at h
  .rename_i hc;simp only[g3f]at h;subst h;refine bR λbase R μ a w hr=>?_;obtain⟨ao,cap,he,_⟩:=(hr.pQ hx).a1a;have hb:=b4b hr es.length cap hc.2.1 hc.2.2.1 hc.2.2.2;refine⟨.slice ao 0 0,?_,.d _ _ (.aE _),trivial⟩;simp only[execOp,ho,g3O,he,yO hu,hb,g3Q,rU (gE hc.1) w,Sem.run_pure,if_true,Nat.sub_self]
  .cases h
 .rename_i e m hu hx;split at h
  .rename_i hc;simp only[g3f]at h;subst h;refine bR λbase R μ a w hr=>?_;obtain⟨ao,he⟩:=(hr.pQ hx).mN;have hb:=b4b hr 0 0 hc.2.1 hc.2.2.1 hc.2.2.2;refine⟨.slice ao 0 0,?_,.d _ _ (.aE _),trivial⟩;simp only[execOp,ho,g3O,he,yO hu,hb,g3Q,rU (gE hc.1) w,Sem.run_pure,if_true,Nat.sub_self]
  .cases h
 .cases h
end
end Go.VM
namespace Go.VM
open Go Go.RowKit
section
variable {P:Program} {G:GT} {st:St} {out:Out}
variable {base:dU} {R:Nat->Nat->Prop} {μ:Nat->Nat} {a:Act} {w w':World}
variable{o o':bH}{k off:Nat}
theorem Rel.c2m(h:Rel P G base R μ st a w)(hk:getKey k st.H=some o)(hos:w'.os=w.os)(htp:w'.tape=w.tape)(vT:w'.output=w.output)(mI:w'.heap.size=w.heap.size)(hb:∀j,j≠μ k->w'.heap[j]? =w.heap[j]?):Step base R w R w':=by obtain⟨h1,h2,_⟩:=h.mE k o hk;exact⟨⟨hos,htp,vT,by omega,λj hj=>hb j λe=>hj (e▸h1)⟩,λ_ _ h=>h,λ_ _ h h'=>absurd h h',λb off hr=>g3V (hb b (by rintro rfl;exact h2 off hr))⟩
theorem Rel.setObj(h:Rel P G base R μ st a w)(hk:getKey k st.H=some o)(hos:w'.os=w.os)(htp:w'.tape=w.tape)(vT:w'.output=w.output)(mI:w'.heap.size=w.heap.size)(hb:∀j,j≠μ k->w'.heap[j]? =w.heap[j]?)(hob:mV R μ w' (μ k) o'){gI:List (TypeId×List Loc)}(a8V:∀c∈gI,∀k off,Loc.c k off∈c.2->∃o,getKey k st.H=some o)(oG:∃vs,a2c P base R μ {st with H:=cE k o' st.H,own:=gI} a w' vs):
  Rel P G base R μ {st with H:=cE k o' st.H,own:=gI} a w'/\Step base R w R w':=by
 have hs:=h.c2m hk hos htp vT mI hb;have hex:∀k' o1,getKey k' (cE k o' st.H)=some o1->∃o2,getKey k' st.H=some o2:=λk' o1 h1=>by
  rw[jS]at h1;by_cases yK:k=k'
  .subst yK;exact⟨o,hk⟩
  .rw[if_neg yK]at h1;exact⟨o1,h1⟩
 refine⟨⟨h.defers,h.size,λi v d hv hd=>(h.tmps i v d hv hd).cA hs,λk' o1 h1=>?_,λk1 k2 o1 o2 h1 h2 he=>?_,λc hc k' off hl=>?_,oG,h.wS.cA hs,λb off hr=>by rw[mI];exact h.rY b off hr,by rw[mI];exact h.base,h.pass⟩,hs⟩
 .simp only at h1;rw[jS]at h1;by_cases yK:k=k'
  .subst yK;rw[if_pos rfl]at h1;cases h1;obtain⟨q1,q2,_⟩:=h.mE k o hk;exact⟨q1,q2,hob⟩
  .rw[if_neg yK]at h1;obtain⟨q1,q2,q3⟩:=h.mE k' o1 h1;exact⟨q1,q2,q3.cA hs (hb _ λhe=>yK (h.inj k k' o o1 hk h1 he.symm))⟩
 .obtain⟨o3,h3⟩:=hex k1 o1 h1;obtain⟨o4,h4⟩:=hex k2 o2 h2;exact h.inj k1 k2 o3 o4 h3 h4 he
 .obtain⟨o1,h1⟩:=a8V c hc k' off hl;simp only;rw[jS];split
  .exact⟨_,rfl⟩
  .exact⟨o1,h1⟩
theorem a2c.e0Z(h:Rel P G base R μ st a w)(hk:getKey k st.H=some o)(hb:∀j,j≠μ k->w'.heap[j]? =w.heap[j]?)(uV:∀off,w'.cell? ⟨μ k,off,none⟩=none):
  ∃vs,a2c P base R μ {st with H:=cE k o' st.H} a w' vs:=by
 obtain⟨vs,hl,h1,hap⟩:=h.own;refine⟨vs,hl,λi c v hc hv=>?_,hap⟩;have ho:=h1 i c v hc hv;have a4q:∀k' o1,getKey k' (cE k o' st.H)=some o1->∃o2,getKey k' st.H=some o2:=λk' o1 h1=>by
  rw[jS]at h1;by_cases yK:k=k'
  .subst yK;exact⟨o,hk⟩
  .rw[if_neg yK]at h1;exact⟨o1,h1⟩
 refine⟨λl hl u hu=>?_,ho.own.d1h (λg hg=>hb g λhe=>ho.keys k o hk (by rw[hg,he])) (λ_ _ _ h=>h),λk' o1 h1=>by obtain⟨o2,h2⟩:=a4q k' o1 h1;exact ho.keys k' o2 h2⟩;cases l with
 |t i=>exact ho.eR _ hl u hu
 |c k' off=>
  by_cases yK:k'=k
  .subst yK;simp only[cX]at hu;rw[uV]at hu;cases hu
  .obtain⟨o1,h1'⟩:=h.eR c (g3e hc) k' off hl;refine ho.eR _ hl u ?_;rw[<-hu];exact(g3V (hb _ λhe=>yK (h.inj k' k o1 o h1' hk he))).symm
theorem b9r{α:Type}{z:List α}{vs:List α}(h:off+vs.length<=z.length)(k:Nat):(overwrite z off vs)[k]? =if k<off then z[k]? else if k<off+vs.length then vs[k-off]? else z[k]? :=by
 have a5e:min off z.length=off:=by omega
 simp only[overwrite,List.append_assoc];by_cases h1:k<off
 .rw[if_pos h1,g3k (by simp;omega),g3F,if_pos h1]
 .rw[if_neg h1,g3h (by simp;omega)];simp only[g3L,a5e];by_cases h2:k<off+vs.length
  .rw[if_pos h2,g3k (by omega)]
  .rw[if_neg h2,g3h (by omega),g3s];congr 1;omega
theorem b9s{α:Type}{z:List α}{vs:List α}(h:off+vs.length<=z.length):(overwrite z off vs).length=z.length:=by simp only[overwrite,g3K,g3L,g3Y];omega
theorem a5g{z:List Value}{vs:List Value}(h:off+vs.length<=z.length)(k:Nat):(z.take off++vs++z.drop (off+vs.length))[k]? =if k<off then z[k]? else if k<off+vs.length then vs[k-off]? else z[k]? :=by
 have a5e:min off z.length=off:=by omega
 simp only[List.append_assoc];by_cases h1:k<off
 .rw[if_pos h1,g3k (by simp;omega),g3F,if_pos h1]
 .rw[if_neg h1,g3h (by simp;omega)];simp only[g3L,a5e];by_cases h2:k<off+vs.length
  .rw[if_pos h2,g3k (by omega)]
  .rw[if_neg h2,g3h (by omega),g3s];congr 1;omega
theorem setRow_os(w:World)(g:Nat)(c:Array Value):(w.setRow g c).os=w.os/\(w.setRow g c).tape=w.tape/\(w.setRow g c).output=w.output/\(w.setRow g c).heap.size=w.heap.size:=⟨rfl,rfl,rfl,by simp[World.setRow]⟩
theorem d5C{v:Value}{d:DV}{ys:List DV}(h:TV R μ w v d)(hc:xD d=some ys)(h1:d.cell=true):ys.length=1/\v.cells=#[v]:=by
 cases h with
 |d v x h=>simp only[xD,g3f]at hc;subst hc;obtain⟨q1,q2⟩:=h.d2G (by simpa[DV.cell]using h1);exact⟨by rw[q2];rfl,q1⟩
 |undef v=>cases hc
 |it k=>cases hc
 |cY vs ds h1 h2=>cases hc
 |ptr k off=>cases hc;exact⟨rfl,rfl⟩
 |ep b o cs h=>cases hc;exact⟨rfl,rfl⟩
 |mp k=>cases hc;exact⟨rfl,rfl⟩
 |fn f=>cases hc;exact⟨rfl,rfl⟩
 |rQ b=>cases hc;exact⟨rfl,rfl⟩
 |a0E T=>cases hc
 |clo f vs cs h1 h2=>cases hc;exact⟨rfl,rfl⟩
 |ag vs cs q1 q2 q3 q4=>cases h1
theorem a8m{o:Oper}{t:TypeId}{ad x:Operand}(ho:o.op=.store t ad x)(h:tY P G t ad x st=some out):wM P G o st out:=by
 unfold tY at h;split at h
 .rename_i k off ys ha hx;split at h
  .rename_i cs hk;split at h
   .rename_i hc;obtain⟨hlen,gK,hle⟩:=hc;simp only[g3f]at h;subst h;intro base R μ a w hr;obtain⟨hbk,hnR,cur,T,hh,mI,d5D,b5g⟩:=hr.mE k _ hk;have hv:=hr.eval x;obtain⟨sU,hvc⟩:=a4s hv hx;have kK:∀u∈(a.eval x).cells.toList,u.oneCell'=true:=λu hu=>by
     obtain⟨i,hi⟩:=g3q hu;have yJ:i<ys.length:=by rw[<-sU];simpa using (g3a.1 hi).1
     obtain⟨_,_,h2⟩:=hvc i ys[i] (by simp[yJ]);have:(a.eval x).cells.getD i undef=u:=by
      have:(a.eval x).cells[i]? =some u:=by simpa using hi
      simp[g3b,this]
     rw[this]at h2;exact h2
    have pZ:=run_storeCells_at P (μ k) off T (a.eval x).cells.toList 0 cur w hh (by rw[mI];simp[sU];omega) kK;simp only[Nat.add_zero]at pZ;have dD:(execOp a.eval o).run P w=.ok .skip (w.setRow (μ k) (cur.toList.take off++(a.eval x).cells.toList++cur.toList.drop (off+(a.eval x).cells.toList.length)).toArray):=by
     have hnn:¬((a.eval x).cells.size≠P.cellsOf t):=by rw[sU,hlen];simp
     simp only[execOp,ho,g3O,hr.eJ ha,Instr.storeAt,Instr.sureAddr,storeVar,Sem.run_pure,g3Q,rU (gE gK) w,if_neg hnn,pZ]
    generalize hw':w.setRow (μ k) (cur.toList.take off++(a.eval x).cells.toList++cur.toList.drop (off+(a.eval x).cells.toList.length)).toArray=w' at dD;have aG:μ k<w.heap.size:=(g3i.1 hh).1;have c0u:w'.heap[μ k]? =some (.cells (cur.toList.take off++(a.eval x).cells.toList++cur.toList.drop (off+(a.eval x).cells.toList.length)).toArray T (0,0)):=by rw[<-hw'];exact setRow_heap w (μ k) cur _ T _ hh
    have a2h:∀j,j≠μ k->w'.heap[j]? =w.heap[j]? :=λj hj=>by rw[<-hw'];exact setRow_other w (μ k) j _ hj
    obtain⟨e1,e2,e3,e4⟩:=setRow_os w (μ k) (cur.toList.take off++(a.eval x).cells.toList++cur.toList.drop (off+(a.eval x).cells.toList.length)).toArray;rw[hw']at e1 e2 e3 e4;have d5E:=hr.c2m hk e1 e2 e3 e4 a2h;have qM:(a.eval x).cells.toList.length=ys.length:=by simpa using sU
    have mO:off+(a.eval x).cells.toList.length<=cur.toList.length:=by rw[qM];simp[mI];omega
    have a6s:∀i,w'.cell? ⟨μ k,i,none⟩=if i<off then cur[i]? else if i<off+ys.length then(a.eval x).cells[i-off]? else cur[i]? :=λi=>by rw[cell_of_row w' _ _ _ T (0,0) c0u,List.getElem?_toArray,a5g mO,qM];simp
    have hob:mV R μ w' (μ k) (.cells (overwrite cs off ys)):=by
     refine⟨_,T,c0u,?_,λi d hi=>?_,b5g.overwrite (b1k hx) off⟩
     .rw[b9s hle, <- mI];simp only[List.size_toArray,g3K,g3L,g3Y];rw[qM];simp;omega
     .rw[b9r hle]at hi;rw[g3b,List.getElem?_toArray,a5g mO,qM];by_cases h1:i<off
      .rw[if_pos h1]at hi|-;have:=d5D i d hi;rw[g3b]at this;exact⟨this.1,by simpa using this.2.cA d5E⟩
      .rw[if_neg h1]at hi|-;by_cases h2:i<off+ys.length
       .rw[if_pos h2]at hi|-;have:=hvc _ d hi;rw[g3b]at this;exact⟨this.1,by simpa using this.2.1.cA d5E⟩
       .rw[if_neg h2]at hi|-;have:=d5D i d hi;rw[g3b]at this;exact⟨this.1,by simpa using this.2.cA d5E⟩
    have d5F:∀k' o1,getKey k' (cE k (.cells (overwrite cs off ys)) st.H)=some o1->∃o2,getKey k' st.H=some o2:=λk' o1 h1=>by
     rw[jS]at h1;by_cases yK:k=k'
     .subst yK;exact⟨_,hk⟩
     .rw[if_neg yK]at h1;exact⟨o1,h1⟩
    have e4R:(∀c∈(if (st.eval G x).cell then gH (.c k off) (uQ (st.eval G x) (xE x)) st.own else dropKey k st.own),∀k' a6K,Loc.c k' a6K∈c.2->∃o,getKey k' st.H=some o)/\
      ∃vs,a2c P base R μ {st with H:=cE k (.cells (overwrite cs off ys)) st.H,own:=if (st.eval G x).cell then gH (.c k off) (uQ (st.eval G x) (xE x)) st.own else dropKey k st.own} a w' vs:=by
     obtain⟨vs,e7c⟩:=hr.own;have hsl:∀e u,rX P base R w e u->(∀k o,getKey k st.H=some o->bQ u≠some (μ k))->rX P base R w' e u:=λe u hu hm=>hu.d1h (λg hg=>a2h g λhe=>hm k _ hk (by rw[hg,he])) (λ_ _ _ h=>h)
     by_cases hy:(st.eval G x).cell=true
     .simp only[hy,if_true];have hyc:ys.length=1/\(a.eval x).cells=#[a.eval x]:=d5C hv hx hy;have d2M:uQ (st.eval G x) (xE x)=.no\/∃s,uQ (st.eval G x) (xE x)=.al (.t s):=by
       unfold uQ;split
       .cases x with
        |tmp s=>exact .inr ⟨s,rfl⟩
        |_=>exact .inl rfl
       .exact .inl rfl
      refine⟨λc hc k' a6K hl=>?_,?_⟩
      .obtain⟨i,hi⟩:=g3q hc;rcases d2M with ha'|⟨s,ha'⟩
       .rw[ha']at hi;obtain⟨c',zM,_,hm⟩:=sM hi;exact hr.eR c' (g3e zM) k' a6K ((hm _).1 hl).1
       .rw[ha']at hi;simp only[gH,reduceCtorEq,if_false]at hi;obtain⟨c',zM,_,hm⟩:=yI hi;rcases hm _ hl with hx'|⟨hx',_⟩
        .obtain⟨c0,zO,_,hm0⟩:=sM zM;exact hr.eR c0 (g3e zO) k' a6K ((hm0 _).1 hx').1
        .cases hx';exact⟨_,hk⟩
      .refine a2c.act (a':=a) (w':=w') (dst:=.c k off) (v:=a.eval x) (act:=uQ (st.eval G x) (xE x)) hr.own rfl d5F (λc hc l hl f5P=>?_) (λu hu=>?_) hsl (hr.uQ x)
       .cases l with
        |t i=>rfl
        |c k' a6K=>
         obtain⟨o1,h1⟩:=hr.eR c hc k' a6K hl;by_cases yK:k'=k
         .subst yK;have d2N:a6K≠off:=λhe=>f5P (by rw[he]);simp only[cX];rw[a6s,cell_of_row w _ _ cur T (0,0) hh];by_cases q1:a6K<off
          .rw[if_pos q1]
          .rw[if_neg q1,if_neg (by rw[hyc.1];omega)]
         .exact g3V (a2h _ λhe=>yK (hr.inj k' k o1 _ h1 hk he))
       .simp only[cX]at hu;rw[a6s,if_neg (by omega),if_pos (by rw[hyc.1];omega),hyc.2]at hu;simp at hu;exact hu.symm
     .simp only[hy];refine⟨λc hc k' a6K hl=>?_,vs,by simpa[dropKey]using e7c.len,λi c u hc hu=>?_,e7c.apart⟩
      .obtain⟨i,hi⟩:=g3q hc;obtain⟨c',zM,_,hm⟩:=a0I hi;exact hr.eR c' (g3e zM) k' a6K ((hm _).1 hl).1
      .obtain⟨c',zM,he,hm⟩:=a0I hc;have xF:=e7c.one i c' u zM hu;refine⟨λl hl u' hu'=>?_,by rw[he];exact hsl _ u xF.own xF.keys,λk' o1 h1=>by obtain⟨o2,h2⟩:=d5F k' o1 h1;exact xF.keys k' o2 h2⟩;have hx':=(hm l).1 hl;refine xF.eR l hx'.1 u' ?_;cases l with
       |t i=>exact hu'
       |c k' a6K=>
        have yK:k'≠k:=by simpa[Loc.a0G]using hx'.2
        obtain⟨o1,h1⟩:=hr.eR c' (g3e zM) k' a6K hx'.1;rw[<-hu'];exact(g3V (a2h _ λhe=>yK (hr.inj k' k o1 _ h1 hk he))).symm
    obtain⟨hrel,hs⟩:=hr.setObj hk e1 e2 e3 e4 a2h hob e4R.1 e4R.2;exact⟨Go.undef,w',R,μ,.inr ⟨dD,rfl⟩,hrel,.cY #[] [] rfl (by simp),trivial,hs⟩
   .cases h
  .cases h
 .cases h
end
end Go.VM
namespace Go.VM
open Go Go.RowKit
section
variable {P:Program} {G:GT} {st:St} {out:Out}
variable {base:dU} {R:Nat->Nat->Prop} {μ:Nat->Nat} {a:Act} {w w':World}
theorem c2n{α:Type}{c:Prop}[Decidable c]{x y:α}(h:(if c then some x else none)=some y):c/\x=y:=by
 split at h
 .rename_i hc;exact⟨hc,by simpa using h⟩
 .cases h
variable{b d:Nat}{o:Oper}{cs:List DV}{e t:TypeId}
theorem a6L(_hd:o.dst=some d)(h:∀base R μ a w,Rel P G base R μ st a w->∃vs:Array Value,(execOp a.eval o).run P w=.ok (.value (.pointer (some ⟨w.heap.size,0,none⟩))) (w.alloc (.cells vs e))/\vs.size=cs.length/\
  ∀(i:Nat)(x:DV),cs[i]? =some x->x.cell=true/\TV R μ w (vs.getD i undef) x)(hd':d<100000)(hm:∀x∈cs,mentions d x=false)(b5g:a5b e cs):wM P G o st ⟨.ptr d 0,.no,jQ st d (.cells cs)⟩:=by
 intro base R μ a w hr;obtain⟨vs,h1,h2,h3⟩:=h base R μ a w hr;have hs:=Step.alloc (base:=base) R w (.cells vs e) hr.base hr.rY;obtain⟨hrel,pZ⟩:=hr.newObj d hd' (.cells cs) (.cells vs e) ⟨vs,e,heap_alloc_new w _,h2,λi x hi=>⟨(h3 i x hi).1,((h3 i x hi).2.cA hs).e4J (key:=d) (λk hk=>by simp[hk]) (hm x (g3e hi))⟩,b5g⟩;refine⟨_,_,R,_,.inl h1,hrel,?_,trivial,pZ⟩;have:=TV.ptr (R:=R) (μ:=λk=>if k=d then w.heap.size else μ k) (w:=w.alloc (.cells vs e)) d 0;simpa using this
theorem c8T(h:b5X cs≠ .cells cs):∃T,cs=[.a0E T,.d .aE]/\b5X cs=.bld T false []:=by
 unfold b5X at h|-;split at h
 .exact⟨_,rfl,rfl⟩
 .exact absurd rfl h
variable{v:Value}
theorem c8U{T:TypeId}(h:a2W t v=.a0E T):v=.pointer none/\T=t:=by
 unfold a2W at h;split at h
 .cases h
 .split at h
  .rename_i hn;cases h;exact⟨c0s hn,rfl⟩
  .cases h
theorem c8V(h:a2W t v=.d .aE):v=.slice none 0 0:=by
 unfold a2W at h;split at h
 .rename_i x hx;cases h;unfold a0F at hx;split at hx<;>simp at hx
  rfl
 .split at h<;>cases h
theorem d2O{z:Value}(hd:o.dst=some d)(hd':d<100000)(ho:o.op=.alloc e)(hz1:(P.info? e).bind (·.zero)=some z)(hz2:z.cells.toList.map (a2W e)=cs)(hzo:¬b5X cs=.cells cs):
  wM P G o st ⟨.ptr d 0,.no,jQ st d (b5X cs)⟩:=by
 obtain⟨T,sN,hT⟩:=c8T hzo;rw[hT];rw[sN]at hz2;obtain⟨v0,v1,hzz⟩:∃v0 v1,z.cells=#[v0,v1]:=by
  have hl:=congrArg List.length hz2
  match hq:z.cells,hl with
  |⟨[p,q]⟩,_=>exact⟨p,q,rfl⟩
 rw[hzz]at hz2;simp only[List.map_cons,List.map_nil,List.cons.injEq,and_true]at hz2;obtain⟨rfl,rfl⟩:=c8U hz2.1;have h1:=c8V hz2.2;subst h1;intro base R μ a w hr;have hs:=Step.alloc (base:=base) R w (.cells #[.pointer none,.slice none 0 0] T) hr.base hr.rY;obtain⟨hrel,pZ⟩:=hr.newObj d hd' (.bld T false []) (.cells #[.pointer none,.slice none 0 0] T) ⟨_,_,_,heap_alloc_new w _,λ_=>⟨rfl,rfl⟩,rfl,.emp _ _,.inl rfl⟩;refine⟨.pointer (some ⟨w.heap.size,0,none⟩),_,R,_,.inl ?_,hrel,?_,trivial,pZ⟩
 .obtain⟨i',hi1,hi2⟩:=g3n.1 hz1;simp[execOp,ho,Instr.alloc,zeroValue,typeInfo,hi1,hi2,newVar,newRow,hzz]
 .have:=TV.ptr (R:=R) (μ:=λk=>if k=d then w.heap.size else μ k) (w:=w.alloc (.cells #[.pointer none,.slice none 0 0] T)) d 0;simpa using this
theorem c0v(ho:o.op=.alloc e)(h:b2Z P o.dst e st=some out):wM P G o st out:=by
 unfold b2Z at h;split at h
 .rename_i d cs hd hz;obtain⟨hd',h⟩:=c2n h;subst h;refine a6L (e:=e) hd (λbase R μ a w hr=>?_) hd' (λx hx=>by obtain⟨y,_,rfl⟩:=g3u.1 hx;rfl) (λT' hx=>by obtain⟨y,_,he⟩:=g3u.1 hx;cases he);obtain⟨zv,h1,h2,h3⟩:=b6e (R:=R) hz w;refine⟨zv.cells,by simp[execOp,ho,Instr.alloc,h1,newVar,newRow],by simp[h2],λi x hi=>?_⟩;rw[g3j]at hi;obtain⟨y,hy,rfl⟩:=g2Y.1 hi;exact⟨(h3 i y hy).1,.d _ _ (h3 i y hy).2⟩
 .rename_i d hd hz;split at h
  .rename_i cs hc;obtain⟨hd',h⟩:=c2n h;subst h;have rL:∀v:Value,(a2W e v).cell=true/\mentions d (a2W e v)=false:=λv=>by
    unfold a2W;split
    .rename_i x hx;exact⟨(zY (R:=λ_ _=>True) (w:=default) hx).2,rfl⟩
    .split<;>exact⟨rfl,rfl⟩
   unfold c4Q at hc;obtain⟨z,hz1,hz2⟩:=g2Y.1 hc;by_cases hzo:b5X cs=.cells cs
   case neg=>exact d2O hd hd' ho hz1 hz2 hzo
   rw[hzo];refine a6L (e:=e) hd (λbase R μ a w hr=>?_) hd' (λx hx=>by rw[<-hz2]at hx;obtain⟨y,_,rfl⟩:=g3u.1 hx;exact(rL y).2) (λT' hx=>by
    rw[<-hz2]at hx;obtain⟨y,_,he⟩:=g3u.1 hx;unfold a2W at he;split at he
    .cases he
    .split at he
     .cases he;rfl
     .cases he)
   refine⟨z.cells,?_,by rw[<-hz2];simp,λi x hi=>?_⟩
   .obtain⟨i',hi1,hi2⟩:=g3n.1 hz1;simp[execOp,ho,Instr.alloc,zeroValue,typeInfo,hi1,hi2,newVar,newRow]
   .rw[<-hz2,g3j]at hi;obtain⟨y,hy,rfl⟩:=g2Y.1 hi;refine⟨(rL y).1,?_⟩;have:z.cells.getD i undef=y:=by
     have:z.cells[i]? =some y:=by simpa using hy
     simp[g3b,this]
    rw[this];unfold a2W;split
    .rename_i u hu;exact .d _ _ (zY hu).1
    .split
     .rename_i hn;rw[c0s hn];exact .a0E _
     .exact .undef _
  .cases h
 .cases h
variable{x:Operand}
theorem e1a(ho:o.op=.box e x)(h:e0P G o.dst x st=some out):wM P G o st out:=by
 unfold e0P at h;split at h
 .rename_i d cs hd hx;split at h
  .rename_i hm;simp only[g3f]at h;subst h;simp only[g2Z,g3N]at hm;obtain⟨hd',hm⟩:=hm;refine a6L (e:=e) hd (λbase R μ a w hr=>?_) hd' (λx hx=>by have:=g3c.1 hm x hx;simpa using this) (a5b.c4S (b1k hx));obtain⟨h1,h2⟩:=a4s (hr.eval x) hx;exact⟨(a.eval x).cells,by simp[execOp,ho,Instr.box,newVar,newRow],h1,λi c hi=>⟨(h2 i c hi).1,(h2 i c hi).2.1⟩⟩
  .cases h
 .cases h
theorem d2P(ho:o.op=.range t x)(h:c2g P G o.dst t x st=some out):wM P G o st out:=by
 unfold c2g at h;split at h
 .rename_i d s hd hu hx;obtain⟨hd',h⟩:=c2n h;subst h;intro base R μ a w hr;obtain⟨hrel,pZ⟩:=hr.newObj d hd' (.iter s 0) (.stringIter ⟨s.toArray⟩ 0) (heap_alloc_new w _);refine⟨.pointer (some ⟨w.heap.size,0,none⟩),_,R,_,.inl (by simp[execOp,ho,Instr.range,g3P hu,hr.b1m hx]),hrel,?_,trivial,pZ⟩;have:=TV.it (R:=R) (μ:=λk=>if k=d then w.heap.size else μ k) (w:=w.alloc (.stringIter ⟨s.toArray⟩ 0)) d;simpa using this
 .cases h
def xH(w:World)(b:Nat)(o:Obj):World:={w with heap:=w.heap.setIfInBounds b o}
theorem b4c{o o':Obj}(h:w.heap[b]? =some o'):(xH w b o).heap[b]? =some o:=by have aG:b<w.heap.size:=(g3i.1 h).1;simp[xH,aG]
theorem c2o{j:Nat}(o:Obj)(h:j≠b):(xH w b o).heap[j]? =w.heap[j]? :=by simp[xH,Ne.symm h]
theorem Rel.xH(h:Rel P G base R μ st a w){k:Nat}{o o':bH}{ob old:Obj}(hk:getKey k st.H=some o)(hold:w.heap[μ k]? =some old)(hnc:∀c t f,ob≠ .cells c t f)(hob:∀w',Step base R w R w'->w'.heap[μ k]? =some ob->mV R μ w' (μ k) o'):
  Rel P G base R μ {st with H:=cE k o' st.H} a (xH w (μ k) ob)/\Step base R w R (Go.VM.xH w (μ k) ob):=by
 have mI:(Go.VM.xH w (μ k) ob).heap.size=w.heap.size:=by simp[Go.VM.xH]
 have hb:∀j,j≠μ k->(Go.VM.xH w (μ k) ob).heap[j]? =w.heap[j]? :=λj hj=>c2o ob hj;have hs:=h.c2m (w':=Go.VM.xH w (μ k) ob) hk rfl rfl rfl mI hb;refine h.setObj (w':=Go.VM.xH w (μ k) ob) hk rfl rfl rfl mI hb (hob _ hs (b4c hold)) h.eR (a2c.e0Z h hk hb λoff=>?_);simp only[World.cell?,b4c (o:=ob) hold];cases ob<;>first|rfl|exact absurd rfl (hnc _ _ _)
variable{old:Obj}
theorem c8W{ob:Obj}(h:w.heap[b]? =some old)(hnc:∀c t f,old≠ .cells c t f:=by simp):(Go.setObj b ob).run P w=.ok () (xH w b ob):=by cases old<;>first|exact absurd rfl (hnc _ _ _)|simp[Go.setObj,Sem.run,h,xH]
theorem b6j(h:w.heap[b]? =some old)(hnc:∀c t f,old≠ .cells c t f:=by simp):(Go.getObj b).run P w=.ok old w:=by
 simp only[Go.getObj,Sem.run,h]
 try (cases old<;>first|rfl|exact absurd rfl (hnc _ _ _))
theorem d5G{b:Bool}(ho:o.op=.next x b)(h:d1g G x b st=some out):wM P G o st out:=by
 unfold d1g at h;split at h
 .rename_i k hx;split at h
  .rename_i s pos hk;split at h
   .rename_i aG;simp only[g3f]at h;subst h;intro base R μ a w hr;obtain⟨_,_,hh⟩:=hr.mE k _ hk
    change w.heap[μ k]? =_ at hh
    obtain⟨hrel,pZ⟩:=hr.xH (ob:=.stringIter ⟨s.toArray⟩ (pos+(Utf8.decode ⟨s.toArray⟩ pos).2)) (o':=.iter s (pos+(Utf8.decode ⟨s.toArray⟩ pos).2)) hk hh (by simp) (λw' _ h=>h);refine⟨.tuple #[.bool true,.int .i64 pos,.int .i32 (Utf8.decode ⟨s.toArray⟩ pos).1],_,R,μ,.inl ?_,hrel,?_,trivial,pZ⟩
    .simp[execOp,ho,hr.d5s hx,Instr.next,b6j (P:=P) hh,a5f,aG,c8W (P:=P) hh,goInt]
    .refine .cY _ _ rfl (λi d hi=>?_)
     match i,hi with
     |0,hi=>simp at hi;subst hi;exact .bool _
     |1,hi=>simp at hi;subst hi;exact .int _ _
     |2,hi=>simp at hi;subst hi;exact .int _ _
     |n+3,hi=>simp at hi
   .rename_i aG;simp only[g3f]at h;subst h;refine bR λbase R μ a w hr=>?_;obtain⟨_,_,hh⟩:=hr.mE k _ hk
    change w.heap[μ k]? =_ at hh
    refine⟨.tuple #[.bool false],?_,?_,trivial⟩
    .simp[execOp,ho,hr.d5s hx,Instr.next,b6j (P:=P) hh,a5f,aG]
    .refine .cY _ _ rfl (λi d hi=>?_)
     match i,hi with
     |0,hi=>simp at hi;subst hi;exact .bool _
     |n+1,hi=>simp at hi
  .cases h
 .cases h
end
end Go.VM
namespace Go.VM
open Go Go.RowKit
section
variable {P:Program} {G:GT} {st:St} {out:Out}
variable {base:dU} {R R':Nat->Nat->Prop} {μ:Nat->Nat} {a:Act} {w w':World}
theorem c5e(s:Nat):∀(ps:List (Nat×Value))(k:Nat)(cs:Array Value),(∀(i:Nat)(p:Nat×Value),ps[i]? =some p->p.1=k+i/\p.2.cells.size=s)->(k+ps.length)*s<=cs.size->
  ∃xG,Instr.fill (λi=>some (i*s,s)) cs ps=some xG/\xG.size=cs.size/\(∀n,n<k*s->xG[n]? =cs[n]?)/\∀(i j:Nat)(p:Nat×Value),ps[i]? =some p->j<s->xG[(k+i)*s+j]? =p.2.cells[j]?
 |[],k,cs,_,_=>⟨cs,rfl,rfl,λ_ _=>rfl,by simp⟩
 |p::ps,k,cs,hp,hl=>by
  obtain⟨h1,h2⟩:=hp 0 p rfl;simp only[Nat.add_zero]at h1;have hk:k*s+s<=cs.size:=by have:(k+1)*s<=(k+(p::ps).length)*s:=g3T _ (by simp only[List.length_cons];omega);rw[Nat.add_mul,Nat.one_mul]at this;omega
  have d5H:(decide (p.2.cells.size≠s)||decide (p.1*s+p.2.cells.size>cs.size))=false:=by rw[h1,h2];simp;omega
  have c4Y:Instr.fill (λi=>some (i*s,s)) cs (p::ps)=Instr.fill (λi=>some (i*s,s)) ((p.2.cells.toList.zipIdx 0).foldl (λcs (x:Value×Nat)=>cs.setIfInBounds (p.1*s+x.2) x.1) cs) ps:=by obtain⟨i,v⟩:=p;simp only[Instr.fill,d5H,g3t,if_false];congr 1;rw[<-Array.foldl_toList,Array.toList_zipIdx]
  have a6s:∀n,((p.2.cells.toList.zipIdx 0).foldl (λcs (x:Value×Nat)=>cs.setIfInBounds (p.1*s+x.2) x.1) cs)[n]? =if k*s<=n/\n<k*s+s/\n<cs.size then p.2.cells[n-k*s]? else cs[n]? :=λn=>by rw[a0v,h1];simp[h2]
  obtain⟨xG,q1,q2,q3,q4⟩:=c5e s ps (k+1) ((p.2.cells.toList.zipIdx 0).foldl (λcs (x:Value×Nat)=>cs.setIfInBounds (p.1*s+x.2) x.1) cs) (λi p' hi=>by have:=hp (i+1) p' (by simpa using hi);exact⟨by omega,this.2⟩) (by rw[fold_size];simp at hl;rwa[show k+1+ps.length=k+(ps.length+1) by omega])
  refine⟨xG,by rw[c4Y];exact q1,by rw[q2,fold_size],λn hn=>?_,λi j p' hi hj=>?_⟩
  .rw[q3 n (by rw[Nat.add_mul];omega),a6s,if_neg (by omega)]
  .cases i with
   |zero=>simp at hi;subst hi;rw[Nat.add_zero,q3 _ (by rw[Nat.add_mul];omega),a6s,if_pos ⟨by omega,by omega,by omega⟩];congr 1;omega
   |succ i=>
    have:=q4 i j p' (by simpa using hi) hj
    rwa[show k+1+i=k+(i+1) by omega]at this
variable{e t:TypeId}
theorem Rel.newRow(h:Rel P G base R μ st a w){w1:World}(hw1:w1=w\/w1=w.drew){cs:Array Value}{es:List (List D)}{n cap:Nat}(mI:cs.size=cap*P.cellsOf e)(hs:0<P.cellsOf e)(hn:n=es.length)(b6f:n<=cap)(e7d:cap<=maxLen)(hlen:∀c∈es,c.length=P.cellsOf e)(sN:∀(i j:Nat)(c:List D)(d:D),es[i]? =some c->c[j]? =some d->d.one=true/\∃v,cs[i*P.cellsOf e+j]? =some v/\V R w v d):
  Rel P G base (λb o=>R b o\/(b=w.heap.size/\o<n*P.cellsOf e)) μ st a (w1.alloc (.cells cs e))/\
  Step base R w (λb o=>R b o\/(b=w.heap.size/\o<n*P.cellsOf e)) (w1.alloc (.cells cs e))/\
  V (λb o=>R b o\/(b=w.heap.size/\o<n*P.cellsOf e)) (w1.alloc (.cells cs e)) (.slice (some ⟨w.heap.size,0,none⟩) n cap) (.sl es)/\
  a6F P base (λb o=>R b o\/(b=w.heap.size/\o<n*P.cellsOf e)) μ st a (w1.alloc (.cells cs e)) (.slice (some ⟨w.heap.size,0,none⟩) n cap) (.fresh e):=by
 have c0u:w1.heap=w.heap:=by rcases hw1 with rfl|rfl<;>rfl
 have hos:w1.os=w.os/\w1.tape=w.tape/\w1.output=w.output:=by rcases hw1 with rfl|rfl<;>exact⟨rfl,rfl,rfl⟩
 have b9t:(w1.alloc (.cells cs e)).heap[w.heap.size]? =some (.cells cs e (0,0)):=by rw[<-c0u];exact heap_alloc_new w1 _
 have hold:∀k,k<w.heap.size->(w1.alloc (.cells cs e)).heap[k]? =w.heap[k]? :=λk hk=>by rw[<-c0u]at hk|-;exact Below.heap_alloc w1 _ k hk
 have yN:(w1.alloc (.cells cs e)).heap.size=w.heap.size+1:=by simp[c0u]
 have pZ:Step base R w (λb o=>R b o\/(b=w.heap.size/\o<n*P.cellsOf e)) (w1.alloc (.cells cs e)):=
  ⟨⟨hos.1,hos.2.1,hos.2.2,by omega,λk hk=>hold k (Nat.lt_of_not_le λhx=>hk (h.base k hx))⟩,λ_ _ h=>.inl h,λb o hr hn=>by
   rcases hr with hr|⟨rfl,_⟩
   .exact absurd hr hn
   .exact h.base _ (g3p _),λb o hr=>g3V (hold b (h.rY b o hr))⟩
 have hrel:=h.step pZ hold (λb o hr hn=>by rcases hr with hr|⟨rfl,_⟩;exact absurd hr hn;exact g3p _) (λb o hr=>by
  rw[yN];rcases hr with hr|⟨rfl,_⟩
  .have:=h.rY b o hr;omega
  .omega)
 refine⟨hrel,pZ,?_,?_,?_,?_⟩
 .by_cases h0:n=0
  .have:es=[]:=g3J (by omega);rw[h0,this];exact .emp _ _
  .have rL:∀(i j:Nat)(c:List D)(d:D),es[i]? =some c->c[j]? =some d->∃v,(w1.alloc (.cells cs e)).cell? ⟨w.heap.size,0+i*P.cellsOf e+j,none⟩=some v/\V R w v d:=λi j c d hi hj=>by obtain⟨_,v,h2,h3⟩:=sN i j c d hi hj;exact⟨v,by rw[Nat.zero_add,cell_of_row _ _ _ cs e (0,0) b9t];exact h2,h3⟩
   refine .sl w.heap.size 0 n cap (P.cellsOf e) es (λi j=>((w1.alloc (.cells cs e)).cell? ⟨w.heap.size,0+i*P.cellsOf e+j,none⟩).getD undef) hn b6f hs hlen (λi j hi hj=>⟨.inr ⟨rfl,?_⟩,?_⟩) (λi j c d hi hj=>(sN i j c d hi hj).1) (λi j c d hi hj=>?_)
   .have:(i+1)*P.cellsOf e<=n*P.cellsOf e:=g3T _ (by omega);rw[Nat.add_mul]at this;omega
   .have yJ:i<es.length:=by omega
    have hei:es[i]? =some es[i]:=g3d yJ;have hjl:j<(es[i]).length:=by rw[hlen _ (g3e hei)];exact hj
    obtain⟨v,hv,_⟩:=rL i j es[i] (es[i])[j] hei (g3d hjl);rw[hv];rfl
   .obtain⟨v,hv,hvd⟩:=rL i j c d hi hj;rw[hv];exact hvd.cA pZ
 .refine .inr ⟨w.heap.size,n,cap,cs,rfl,h.base _ (g3p _),b9t,b6f,e7d,mI,λoff ho hr=>?_⟩;rcases hr with hr|⟨_,hr⟩
  .have:=h.rY _ _ hr;omega
  .omega
 .intro k o hk hsp;obtain⟨_,_,h3⟩:=h.mE k o hk;have:=h3.lt;simp only[bQ]at hsp;split at hsp<;>simp at hsp;omega
 .obtain⟨vs,sU⟩:=h.own;refine⟨vs,sU.step h hold (λb o hb hr=>by rcases hr with hr|⟨rfl,_⟩;exact hr;omega),λv' hv'=>⟨λg hg hg'=>?_,λg hg hg'=>?_⟩⟩
  .have aG:=sU.lt hv' hg';simp only[bQ]at hg;split at hg<;>simp at hg;omega
  .have aG:=sU.lt hv' hg;simp only[bQ]at hg';split at hg'<;>simp at hg';omega
theorem a0J(h:kD P e=true):∃i z,P.info? e=some i/\i.size=P.cellsOf e/\i.bytes=P.bytesOf e/\0<P.cellsOf e/\i.zero=some z/\z.cells.size=P.cellsOf e:=by
 unfold kD at h;split at h
 .rename_i i hi;have h1:i.size=P.cellsOf e:=by simp[Program.cellsOf,hi]
  have h2:i.bytes=P.bytesOf e:=by simp[Program.bytesOf,hi]
  simp only[g2Z,g3N]at h;cases hz:i.zero with
  |none=>simp[hz]at h
  |some z=>simp[hz]at h;exact⟨i,z,hi,h1,h2,by omega,hz,by omega⟩
 .cases h
theorem a5h(h:jH P t=some e):P.underlying t=some (.slice e):=by
 unfold jH at h;split at h
 .simp at h;subst h;assumption
 .cases h
theorem b6k{o:Oper}{len:Nat}{parts:Array (Nat×Operand)}(ho:o.op=.buildSlice t len parts)(h:uR P G t len parts st=some out):wM P G o st out:=by
 unfold uR at h;split at h
 .rename_i e ps he hps;split at h
  .rename_i hc;simp only[g2Z,g3N,beq_iff_eq]at hc;obtain⟨⟨⟨oB,d2Q⟩,eS⟩,f5Q⟩:=hc;simp only[g3f]at h;subst h;obtain⟨i,z,hi,yN,b0c,a2i,hz,hzs⟩:=a0J oB;have hu:=a5h he;intro base R μ a w hr;obtain⟨hl,hp⟩:=a6J hr hps;have hpl:ps.length=len:=by have:=congrArg List.length d2Q;simpa using this
   have d5J:∀q∈ps,q.2.cells.length=P.cellsOf e:=λq hq=>by simpa using g3c.1 eS q hq
   have a6s:∀(i:Nat)(p:Nat×Value),(parts.toList.map λx=>(x.1,a.eval x.2))[i]? =some p->∃q,ps[i]? =some q/\p.1=i/\V R w p.2 q.2:=λi p hpi=>by
    have yJ:i<ps.length:=by rw[<-hl];have:=(g3a.1 hpi).1;simpa using this
    have hq:ps[i]? =some ps[i]:=g3d yJ;obtain⟨h1,h2⟩:=hp i p ps[i] hpi hq;refine⟨ps[i],hq,?_,h2⟩;have h3:(ps.map (·.1))[i]? =(List.range len)[i]? :=by rw[d2Q]
    rw[g3j,hq,List.getElem?_range (by omega)]at h3;have h4:ps[i].1=i:=by simpa using h3
    omega
   obtain⟨xG,q1,q2,_,q4⟩:=c5e (P.cellsOf e) (parts.toList.map λx=>(x.1,a.eval x.2)) 0 ((Array.range (len*P.cellsOf e)).map λi=>(if len*P.cellsOf e=0 then(#[]:Array Value) else z.cells)[i%(if len*P.cellsOf e=0 then(#[]:Array Value) else z.cells).size]!)
    (λi p hpi=>by obtain⟨q,hq,h1,h2⟩:=a6s i p hpi;exact⟨by omega,by rw[h2.cells.1,d5J q (g3e hq)]⟩) (by simp[hl,hpl])
   have d5K:xG.size=len*P.cellsOf e:=by rw[q2];simp
   have hN:=hr.newRow (w1:=w) (.inl rfl) (e:=e) (cs:=xG) (es:=ps.map λp=>p.2.cells) (n:=len) (cap:=len) d5K a2i (by simp[hpl]) (g3p _)
    (by unfold maxLen;have:len*1<=len*P.cellsOf e:=Nat.mul_le_mul_left _ a2i;omega) (λc hc=>by simp only[g3u]at hc;obtain⟨q,hq,rfl⟩:=hc;exact d5J q hq)
    (λi j c d hi hj=>by
     simp only[g3j,g2Y]at hi;obtain⟨q,hq,rfl⟩:=hi;have yJ:i<parts.toList.length:=by rw[hl];exact(g3a.1 hq).1
     have hpi:(parts.toList.map λx=>(x.1,a.eval x.2))[i]? =some ((parts.toList[i]).1,a.eval (parts.toList[i]).2):=by rw[g3j,g3d yJ];rfl
     obtain⟨_,hv⟩:=hp i _ q hpi hq;obtain⟨v1,v2⟩:=hv.cells;have hjl:j<q.2.cells.length:=(g3a.1 hj).1;obtain⟨h1,h2⟩:=v2 j d hj;have:=q4 i j _ hpi (by rw[<-d5J q (g3e hq)];exact hjl);rw[Nat.zero_add]at this;refine⟨h1,_,?_,h2⟩;rw[this];have hjs:j<(a.eval (parts.toList[i]).2).cells.size:=by rw[v1];exact hjl
     rw[g3b,g3r hjs];rfl)
   obtain⟨n1,n2,n3,n4⟩:=hN;refine⟨_,_,_,μ,.inl ?_,n1,.d _ _ n3,n4,n2⟩;have f1O:¬(len*P.cellsOf e>2 ^ 24):=by omega
   have f1P:(parts.map λ(x:Nat×Operand)=>(x.1,a.eval x.2)).toList=parts.toList.map λx=>(x.1,a.eval x.2):=by simp
   have hso:=rU (P:=P) (t:=e) (by rw[hi];rfl) w;by_cases h0:len*P.cellsOf e=0
   .simp only[h0,if_true]at q1;simp only[execOp,ho,Instr.buildSlice,g3O,g3P hu,g3Q,hso,h0,gt_iff_lt,Nat.not_lt_zero,if_false,if_true,Sem.run_pure,f1P,q1,newRow]
    rfl
   .simp only[h0,if_false]at q1;simp only[execOp,ho,Instr.buildSlice,g3O,g3P hu,g3Q,hso,if_neg f1O,h0,if_false,Sem.run_pure,zeroValue,typeInfo,hi,hz,f1P,q1,newRow,run_program]
    rfl
  .cases h
 .cases h
end
end Go.VM
namespace Go.VM
open Go Go.RowKit
section
variable {P:Program} {G:GT} {st:St} {out:Out}
variable {base:dU} {R R':Nat->Nat->Prop} {μ:Nat->Nat} {a:Act} {w w':World}
variable{ys:List (List D)}
theorem b1n{b o size:Nat}(hlen:∀e∈ys,e.length=size)(dD:∀(i:Nat)(e:List D),ys[i]? =some e->Run R w b (o+i*size) e):
  ∃news:List Value,news.length=ys.length*size/\(∀(j:Nat)(u:Value),news[j]? =some u->w.cell? ((⟨b,o,none⟩:Addr).add j)=some u)/\(∀u∈news,u.oneCell'=true)/\
   ∀(i j:Nat)(c:List D)(d:D),ys[i]? =some c->c[j]? =some d->d.one=true/\∃v,news[i*size+j]? =some v/\V R w v d:=by
 have rL:∀n,n<ys.length*size->∃v d,w.cell? ⟨b,o+n,none⟩=some v/\d.one=true/\V R w v d/\∃c,ys[n/size]? =some c/\c[n%size]? =some d:=λn hn=>by
  have hs:0<size:=by
   rcases Nat.eq_zero_or_pos size with h|h
   .subst h;simp at hn
   .exact h
  have hi:n/size<ys.length:=by rw[Nat.div_lt_iff_lt_mul hs];exact hn
  have hei:ys[n/size]? =some ys[n/size]:=g3d hi;have hj:n%size<(ys[n/size]).length:=by rw[hlen _ (g3e hei)];exact Nat.mod_lt _ hs
  have hd:=g3d hj;obtain⟨h1,_,v,h3,h4⟩:=dD _ _ hei _ _ hd;have heq:o+n/size*size+n%size=o+n:=by have:=Nat.div_add_mod n size;rw[Nat.mul_comm]at this;omega
  rw[heq]at h3;exact⟨v,_,h3,h1,h4,_,hei,hd⟩
 refine⟨(List.range (ys.length*size)).map λn=>(w.cell? ⟨b,o+n,none⟩).getD undef,by simp,λj u hj=>?_,λu hu=>?_,λi j c d hi hj=>?_⟩
 .simp only[g3j,g2Y]at hj;obtain⟨n,hn,rfl⟩:=hj;have aG:j<ys.length*size:=by simpa using (g3a.1 hn).1
  rw[List.getElem?_range aG]at hn;cases hn;obtain⟨v,d,h1,_⟩:=rL j aG;rw[pC,h1];rfl
 .simp only[g3u,List.mem_range]at hu;obtain⟨n,hn,rfl⟩:=hu;obtain⟨v,d,h1,h2,h3,_⟩:=rL n hn;rw[h1];exact h3.b1i h2
 .have yJ:i<ys.length:=(g3a.1 hi).1;have hjl:j<size:=by rw[<-hlen c (g3e hi)];exact(g3a.1 hj).1
  have aG:i*size+j<ys.length*size:=by have:(i+1)*size<=ys.length*size:=g3T _ yJ;rw[Nat.add_mul]at this;omega
  obtain⟨h1,_,v,h3,h4⟩:=dD i c hi j d hj;refine⟨h1,v,?_,h4⟩;rw[g3j,List.getElem?_range aG];simp only[Option.map_some];rw[show o+(i*size+j)=o+i*size+j by omega,h3];rfl
variable{x:Operand}
theorem c0w(hr:Rel P G base R μ st a w)(h:e0R (st.eval G x)=some ys):∃ao cap,a.eval x=.slice ao ys.length cap/\
  (ys≠[]->∃b o size,ao=some ⟨b,o,none⟩/\0<size/\(∀e∈ys,e.length=size)/\∀(i:Nat)(e:List D),ys[i]? =some e->Run R w b (o+i*size) e):=by
 unfold e0R at h;split at h
 .rename_i es hx;simp at h;subst h;obtain⟨ao,cap,h1,_,h3⟩:=(hr.pQ hx).a1a;exact⟨ao,cap,h1,h3⟩
 .rename_i hx;simp at h;subst h;obtain⟨ao,h1⟩:=(hr.pQ hx).mN;exact⟨ao,0,h1,λh=>absurd rfl h⟩
 .cases h
theorem b1o{l:Loc}:∀{own:List (TypeId×List Loc)}{e:TypeId}{gI:List (TypeId×List Loc)},jV l own=some (e,gI)->∃pre c post,own=pre++c::post/\gI=pre++post/\c.1=e/\l∈c.2
 |[],e,gI,h=>by simp[jV]at h
 |c::r,e,gI,h=>by
  simp only[jV]at h;split at h
  .rename_i hc;simp at h;exact⟨[],c,r,rfl,h.2.symm,h.1,by simpa using hc⟩
  .simp only[g2Y]at h;obtain⟨⟨e',r'⟩,hr,he⟩:=h;simp at he;obtain⟨pre,c',post,h1,h2,h3,h4⟩:=b1o hr;exact⟨c::pre,c',post,by simp[h1],by rw[<-he.2,h2];rfl,h3.trans he.1,h4⟩
theorem Rel.jV(h:Rel P G base R μ st a w){l:Loc}{e:TypeId}{gI:List (TypeId×List Loc)}(ht:Go.VM.jV l st.own=some (e,gI)):
  Rel P G base R μ {st with own:=gI} a w/\∃v vs,(∀u,cX a w μ l=some u->u=v)/\rX P base R w e v/\(∀k o,getKey k st.H=some o->bQ v≠some (μ k))/\a2c P base R μ {st with own:=gI} a w vs/\∀v'∈vs,a5Z v v'/\a5Z v' v:=by
 obtain⟨pre,c,post,h1,rfl,h3,h4⟩:=b1o ht;obtain⟨vs,sU⟩:=h.own;have hpl:pre.length<vs.length:=by rw[sU.len,h1];simp
 have c8X:vs=vs.take pre.length++vs[pre.length]::vs.drop (pre.length+1):=by rw[<-g3m hpl,g3M]
 have hc:=sU.one pre.length c vs[pre.length] (by rw[h1];simp) (g3d hpl);have hap:=sU.apart;rw[c8X,List.pairwise_append,List.pairwise_cons]at hap;have hO:a2c P base R μ {st with own:=pre++post} a w (vs.take pre.length++vs.drop (pre.length+1)):=by
  refine⟨?_,λi c' v zM hv=>?_,?_⟩
  .have:=sU.len;rw[h1]at this;simp at this|-;omega
  .by_cases hi:i<pre.length
   .refine(λq=>⟨q.eR,q.own,q.keys⟩:a5c P base R μ st a w c' v->_) (sU.one i c' v ?_ ?_)
    .rw[h1,g3k hi];simpa[g3k hi]using zM
    .rw[g3k (by simp;omega),g3F]at hv;rw[if_pos hi]at hv;exact hv
   .refine(λq=>⟨q.eR,q.own,q.keys⟩:a5c P base R μ st a w c' v->_) (sU.one (i+1) c' v ?_ ?_)
    .rw[h1,g3h (by omega),show i+1-pre.length=(i-pre.length)+1 by omega,List.getElem?_cons_succ];simpa[g3h (g3I hi)]using zM
    .have a5e:min pre.length vs.length=pre.length:=by omega
     rw[g3h (by simp;omega),g3s]at hv;simp only[g3L,a5e]at hv
     rwa[show pre.length+1+(i-pre.length)=i+1 by omega]at hv
  .rw[List.pairwise_append];exact⟨hap.1,hap.2.1.2,λx hx y hy=>hap.2.2 x hx y (.tail _ hy)⟩
 refine⟨⟨h.defers,h.size,h.tmps,h.mE,h.inj,λc' zM k off hl=>h.eR c' (by rw[h1];simp at zM|-;rcases zM with q|q<;>simp[q]) k off hl,⟨_,hO⟩,h.wS,h.rY,h.base,h.pass⟩,vs[pre.length],_,λu hu=>hc.eR l h4 u hu,by rw[<-h3];exact hc.own,hc.keys,hO,λv' hv'=>?_⟩;simp only[g3z]at hv';rcases hv' with hv'|hv'
 .have:=hap.2.2 v' hv' vs[pre.length] (.head _);exact⟨λg hg hg'=>this g hg' hg,this⟩
 .have:=hap.2.1.1 v' hv';exact⟨this,λg hg hg'=>this g hg' hg⟩
variable{g m:Nat}{e t t' ty:TypeId}{cur:Array Value}
theorem Rel.d1p(h:Rel P G base R μ st a w){n s:Nat}{cur':Array Value}(hgk:∀k o,getKey k st.H=some o->μ k≠g){vs:List Value}(sU:a2c P base R μ st a w vs)(hgv:∀v∈vs,bQ v≠some g)(hb:base g)(hg:w.heap[g]? =some (.cells cur e (0,0)))(hR:∀off,n*s<=off-> ¬R g off)(d5D:∀off,off<n*s->cur'[off]? =cur[off]?):
  Rel P G base (λb o=>R b o\/(b=g/\o<(n+m)*s)) μ st a (w.setRow g cur')/\Step base R w (λb o=>R b o\/(b=g/\o<(n+m)*s)) (w.setRow g cur')/\
  a2c P base (λb o=>R b o\/(b=g/\o<(n+m)*s)) μ st a (w.setRow g cur') vs:=by
 have a2h:∀j,j≠g->(w.setRow g cur').heap[j]? =w.heap[j]? :=λj hj=>setRow_other w g j _ hj;have b9t:(w.setRow g cur').heap[g]? =some (.cells cur' e (0,0)):=setRow_heap w g cur _ e _ hg;have f5S:g<w.heap.size:=(g3i.1 hg).1;have pZ:Step base R w (λb o=>R b o\/(b=g/\o<(n+m)*s)) (w.setRow g cur'):=
  ⟨⟨rfl,rfl,rfl,by simp[World.setRow],λk hk=>a2h k λe=>hk (e▸hb)⟩,λ_ _ h=>.inl h,λb o hr hn=>by
   rcases hr with hr|⟨rfl,_⟩
   .exact absurd hr hn
   .exact hb,λb o hr=>by
   by_cases hbg:b=g
   .subst hbg;have aG:o<n*s:=Nat.lt_of_not_le λhle=>hR o hle hr;rw[cell_of_row _ _ _ cur' e (0,0) b9t,cell_of_row _ _ _ cur e (0,0) hg,d5D o aG]
   .exact g3V (a2h b hbg)⟩
 have hO:a2c P base (λb o=>R b o\/(b=g/\o<(n+m)*s)) μ st a (w.setRow g cur') vs:=by
  refine⟨sU.len,λi c v hc hv=>?_,sU.apart⟩;have ho:=sU.one i c v hc hv;have gK:=hgv v (g3e hv);refine⟨λl hl u hu=>ho.eR l hl u ?_,ho.own.d1h (λg' hg'=>a2h g' (by rintro rfl;exact gK hg')) (λg' off hg' hr=>?_),ho.keys⟩
  .cases l with
   |t i=>exact hu
   |c k off=>obtain⟨o,hk⟩:=h.eR c (g3e hc) k off hl;rw[<-hu];exact(g3V (a2h _ (hgk k o hk))).symm
  .rcases hr with hr|⟨rfl,_⟩
   .exact hr
   .exact absurd hg' gK
 refine⟨⟨h.defers,h.size,λi v d hv hd=>(h.tmps i v d hv hd).cA pZ,λk o hk=>?_,h.inj,h.eR,⟨vs,hO⟩,h.wS.cA pZ,λb o hr=>?_,by have:=h.base;simpa[World.setRow]using this,h.pass⟩,pZ,hO⟩
 .obtain⟨q1,q2,q3⟩:=h.mE k o hk;refine⟨q1,λoff hr=>?_,q3.cA pZ (a2h _ (hgk k o hk))⟩;rcases hr with hr|⟨he,_⟩
  .exact q2 off hr
  .exact hgk k o hk he
 .have:b<w.heap.size:=by
   rcases hr with hr|⟨rfl,_⟩
   .exact h.rY b o hr
   .exact f5S
  simpa[World.setRow]using this
variable{news:List Value}
theorem b0d(hr:Rel P G base R μ st a w){z:Value}(hs:0<P.cellsOf e)(hzs:z.cells.size=P.cellsOf e){xs:List (List D)}{olds:List Value}(old:Nat)(hb:xs.length+ys.length<=maxLen)(hlx:∀c∈xs,c.length=P.cellsOf e)(hly:∀c∈ys,c.length=P.cellsOf e)(rZ:olds.length=xs.length*P.cellsOf e)(hln:news.length=ys.length*P.cellsOf e)(ho:∀(i j:Nat)(c:List D)(d:D),xs[i]? =some c->c[j]? =some d->d.one=true/\∃v,olds[i*P.cellsOf e+j]? =some v/\V R w v d)(hn:∀(i j:Nat)(c:List D)(d:D),ys[i]? =some c->c[j]? =some d->d.one=true/\∃v,news[i*P.cellsOf e+j]? =some v/\V R w v d){cs:Array Value}(sN:cs=olds.toArray++news.toArray++Builtin.zeroCells z.cells (grownCap w (xs.length+ys.length) old e-(xs.length+ys.length))):
  ∃R',Rel P G base R' μ st a (w.drew.alloc (.cells cs e))/\Step base R w R' (w.drew.alloc (.cells cs e))/\
   V R' (w.drew.alloc (.cells cs e)) (.slice (some ⟨w.heap.size,0,none⟩) (xs.length+ys.length) (grownCap w (xs.length+ys.length) old e)) (.sl (xs++ys))/\
   a6F P base R' μ st a (w.drew.alloc (.cells cs e)) (.slice (some ⟨w.heap.size,0,none⟩) (xs.length+ys.length) (grownCap w (xs.length+ys.length) old e)) (.fresh e):=by
 have hge:=grownCap_ge w (xs.length+ys.length) old e;have e7d:=grownCap_le_maxLen w (xs.length+ys.length) old e hb;have mI:cs.size=grownCap w (xs.length+ys.length) old e*P.cellsOf e:=by rw[sN];simp only[Array.size_append,List.size_toArray,size_zeroCells,hzs,rZ,hln, <- Nat.add_mul];congr 1;omega
 have:=hr.newRow (w1:=w.drew) (.inr rfl) (e:=e) (cs:=cs) (es:=xs++ys) (n:=xs.length+ys.length) mI hs (by simp) hge e7d
  (λc hc=>by simp at hc;rcases hc with hc|hc;exact hlx c hc;exact hly c hc) (λi j c d hi hj=>by
   by_cases yJ:i<xs.length
   .rw[g3k yJ]at hi;obtain⟨h1,v,h2,h3⟩:=ho i j c d hi hj;refine⟨h1,v,?_,h3⟩;have aG:=(g3a.1 h2).1;rw[sN,Array.getElem?_append,if_pos (by simp;omega),Array.getElem?_append,if_pos (by simpa using aG)];simpa using h2
   .rw[g3h (by omega)]at hi;obtain⟨h1,v,h2,h3⟩:=hn (i-xs.length) j c d hi hj;refine⟨h1,v,?_,h3⟩;have aG:=(g3a.1 h2).1;have d2Q:i*P.cellsOf e+j=olds.length+((i-xs.length)*P.cellsOf e+j):=by rw[rZ, <- Nat.add_assoc, <- Nat.add_mul];congr 2;omega
    rw[sN,d2Q,Array.getElem?_append,if_pos (by simp;omega),Array.getElem?_append,if_neg (by simp)];simpa using h2)
 exact⟨_,this⟩
theorem c5g(hr:Rel P G base R μ st a w)(hu:P.underlying t=some (.slice e))(a2i:0<P.cellsOf e)(h:c2h P t t' (st.eval G x)=some ys)(hly:∀c∈ys,c.length=P.cellsOf e):
  ∃news:List Value,Src P (P.cellsOf e) t' (a.eval x) ys.length news w/\∀(i j:Nat)(c:List D)(d:D),ys[i]? =some c->c[j]? =some d->d.one=true/\∃v,news[i*P.cellsOf e+j]? =some v/\V R w v d:=by
 unfold c2h at h;split at h
 .rename_i ht;subst ht;obtain⟨ao,cap,h1,h2⟩:=c0w hr h;by_cases gK:ys=[]
  .subst gK;refine⟨[],?_,by simp⟩;rw[h1];cases ao with
   |none=>exact Src.ofNil w hu cap
   |some ad=>exact Src.ofSlice w hu ad 0 cap [] (by simp) (by simp) (by simp)
  .obtain⟨b,off,size,rfl,q1,q2,q3⟩:=h2 gK;have mI:size=P.cellsOf e:=by
    cases ys with
    |nil=>exact absurd rfl gK
    |cons c l=>rw[<-q2 c (.head _),hly c (.head _)]
   subst mI;obtain⟨news,n1,n2,n3,n4⟩:=b1n q2 q3;refine⟨news,?_,n4⟩;rw[h1];exact Src.ofSlice w hu _ _ cap news n1 n2 n3
 .split at h
  .rename_i e' s hk he hx;have hee:e'=e:=by
    have:=a5h he;rw[hu]at this;cases this
    rfl
   subst hee;split at h
   .rename_i hc;cases h;refine⟨byteCells ⟨s.toArray⟩,?_,λi j c d hi hj=>?_⟩
    .rw[hr.b1m hx,hc.2];have:=Src.ofString w hk ⟨s.toArray⟩;simpa[ByteArray.size]using this
    .rw[g3j]at hi;obtain⟨b,hb,rfl⟩:=g2Y.1 hi;cases j with
     |zero=>simp at hj;subst hj;refine⟨rfl,.int .u8 b.toNat,?_,.int _ _⟩;rw[hc.2];simp[byteCells,hb]
     |succ j=>simp at hj
   .cases h
  .cases h
variable{i:TypeInfo}
theorem a6e{x:Value}(hu:P.underlying t=some (.slice e))(hi:P.info? e=some i)(hs:Src P i.size t' x 0 [] w)(b:Option Addr)(n cap:Nat)(hn:n<=cap):
  (Builtin.append_ #[t,t'] ty #[.slice b n cap,x]).run P w=.ok (.slice b n cap) w:=by
 rcases hs.kind with⟨e',hk⟩|hk<;>cases b<;>simp[Builtin.append_,g3P hu,g3P hk,sizeOf,typeInfo,hi,hs.len,hn,hs.cells,storeCells]
theorem b3f(ht:P.underlying t=some (.slice e))(hi:P.info? e=some i){c8Y e7g:Nat}(hg:w.heap[g]? =some (.cells cur e (0,0))){x:Value}(hs:Src P i.size t' x m news w)(a6N:c8Y+m<=e7g)(mO:c8Y*i.size+news.length<=cur.size:=by rw[yN];exact mO):
  (Builtin.append_ #[t,t'] ty #[.slice (some ⟨g,0,none⟩) c8Y e7g,x]).run P w=
   .ok (.slice (some ⟨g,0,none⟩) (c8Y+m) e7g) (w.setRow g (cur.toList.take (c8Y*i.size)++news++cur.toList.drop (c8Y*i.size+news.length)).toArray):=by
 have pZ:=run_storeCells_at P g (c8Y*i.size) e news 0 cur w hg (by simpa using mO) hs.one;simp only[Nat.add_zero]at pZ;rcases hs.kind with⟨e',hk⟩|hk<;>simp[Builtin.append_,g3P ht,g3P hk,sizeOf,typeInfo,hi,hs.len,a6N,hs.cells,Addr.add_lit,pZ]
theorem c8Z{o:Oper}{s:Operand}(ho:o.op=.call {callee:=.builtin .append,args:=#[s,x],argTypes:=#[t,t']})(h:a5a P G t t' s x st=some out):wM P G o st out:=by
 unfold a5a at h;split at h
 case h_2=>cases h
 rename_i e ys he hys;split at h
 case isFalse=>cases h
 rename_i hc;obtain⟨oB,eS⟩:=hc;obtain⟨ti,z,hi,yN,b0c,a2i,hz,hzs⟩:=a0J oB;have hu:=a5h he;have hly:∀c∈ys,c.length=P.cellsOf e:=λc hc=>by simpa using g3c.1 eS c hc
 have a6O:∀(a:Act)(w:World)(v:Value)(w':World),(Builtin.append_ #[t,t'] o.type #[a.eval s,a.eval x]).run P w=.ok v w'->(execOp a.eval o).run P w=.ok (.value v) w':=λa w v w' hr=>by simp[execOp,ho,resolve,invoke,builtin,hr]
 have c0x:∀{base:dU}{R:Nat->Nat->Prop}{μ:Nat->Nat}{a:Act}{w:World},Rel P G base R μ st a w->∃news:List Value,Src P ti.size t' (a.eval x) ys.length news w/\∀(i j:Nat)(c:List D)(d:D),ys[i]? =some c->c[j]? =some d->d.one=true/\∃v,news[i*P.cellsOf e+j]? =some v/\V R w v d:=λhr=>by rw[yN];exact c5g hr hu a2i hys hly
 have e4S:∀{news:List Value}{v:Value}{w:World},Src P ti.size t' v ys.length news w->ys=[]->news=[]:=λhs hy=>by have:=hs.newsLen;rw[hy]at this;exact g3J (by simpa using this)
 have b5g:∀(st':St)(gI:List (TypeId×List Loc)),st'={st with own:=gI}->ys.length*(P.bytesOf e+1)<=140737488355328->∀{base:dU}{R:Nat->Nat->Prop}{μ:Nat->Nat}{a:Act}{w:World},Rel P G base R μ st a w->Rel P G base R μ st' a w->(∃ao,a.eval s=.slice ao 0 0)->
   ∃v w' R' μ',((execOp a.eval o).run P w=.ok (.value v) w'\/((execOp a.eval o).run P w=.ok .skip w'/\v=Go.undef))/\Rel P G base R' μ' st' a w'/\TV R' μ' w' v (.d (.sl ys))/\a6F P base R' μ' st' a w' v (.fresh e)/\Step base R w R' w':=by
  intro st' gI f9Q hbd base R μ a w hr jD ⟨ao,hs⟩;obtain⟨news,b9u,h5⟩:=c0x hr;have h2:news.length=ys.length*P.cellsOf e:=by rw[b9u.newsLen,yN]
  by_cases gK:ys=[]
  .have hn0:=e4S b9u gK;subst gK;subst hn0;obtain⟨vs,sU⟩:=jD.own;refine⟨.slice ao 0 0,w,R,μ,.inl (a6O a w _ w ?_),jD,.d _ _ (.emp _ _),⟨.inl ⟨ao,rfl⟩,λk o _=>by cases ao<;>simp[bQ],vs,sU,λv' _=>⟨λg hg=>by cases ao<;>simp[bQ]at hg,λg _ hg=>by cases ao<;>simp[bQ]at hg⟩⟩,.refl _ _ _⟩;rw[hs];exact a6e hu hi b9u ao 0 0 (g3p _)
  .have hlen:0<ys.length:=by cases ys with|nil=>exact absurd rfl gK|cons _ _=>simp
   have hb1:ys.length<=140737488355328:=by rw[Nat.mul_add]at hbd;omega
   have hb2:ys.length*P.bytesOf e<=140737488355328:=by rw[Nat.mul_add]at hbd;omega
   obtain⟨R',n1,n2,n3,n4⟩:=b0d jD (e:=e) (z:=z) a2i hzs (xs:=[]) (ys:=ys) (olds:=[]) (news:=news) 0 (by unfold maxLen;simp;omega) (by simp) hly (by simp) h2 (by simp) h5 rfl;simp only[List.length_nil,Nat.zero_add,List.nil_append]at n1 n2 n3 n4;refine⟨_,_,R',μ,.inl (a6O a w _ _ ?_),n1,.d _ _ n3,n4,n2⟩;rw[hs];have:=run_append_grow_src (P:=P) w t t' o.type e ti z hu hi hz ao 0 0 [] (by cases ao<;>simp[Builtin.firstCells,loadCells,loadCellsFrom]) (a.eval x) ys.length news b9u (by omega) (by omega) (by rw[b0c];exact growslice_fits (by omega) (by rw[Nat.zero_add];exact hb2));simpa using this
 split at h
 .rename_i hsn;split at h
  case isFalse=>cases h
  rename_i hbd;simp only[g3f]at h;subst h;intro base R μ a w hr;exact b5g st st.own rfl hbd hr hr ((hr.pQ hsn).mN)
 .rename_i xs i hsx;split at h
  case h_2=>cases h
  rename_i e' gI htk;split at h
  case isFalse=>cases h
  rename_i hc;obtain⟨rfl,f1S,hbd⟩:=hc;simp only[g3f]at h;subst h;intro base R μ a w hr;obtain⟨jD,v0,vs,hv0,oG,a4q,sU,hap⟩:=hr.jV htk;have hsv:a.eval (.tmp i)=v0:=by
   refine hv0 _ ?_
   show a.tmps[i]? =some (a.tmps.getD i undef)
   by_cases hs:i<a.tmps.size
   .simp[hs]
   .have h3:¬i<st.tmps.length:=by rw[<-hr.size];exact hs
    simp[St.eval,List.getD,g3G (g3I h3)]at hsx
  have hV:=hr.pQ hsx;have hlx:∀c∈xs,c.length=P.cellsOf e':=λc hc=>by simpa using g3c.1 f1S c hc
  rcases oG with⟨ao,rfl⟩|⟨g,n,cap,cur,rfl,hbg,hg,hnc,hcm,sN,hnR⟩
  .have hx0:xs=[]:=by obtain⟨ao',e0Y,h1,_⟩:=hV.a1a;rw[hsv]at h1;exact g3J (Value.slice.inj h1).2.1.symm
   subst hx0;simp only[List.length_nil,Nat.zero_add]at hbd;simpa using b5g {st with own:=gI} gI rfl hbd hr jD ⟨ao,hsv⟩
  .obtain⟨ao',e0Y,h1,_,d5L⟩:=hV.a1a;rw[hsv]at h1;cases h1;have holds:∃olds:List Value,olds.length=xs.length*P.cellsOf e'/\(∀(j:Nat)(u:Value),olds[j]? =some u->w.cell? ((⟨g,0,none⟩:Addr).add j)=some u)/\
     ∀(i j:Nat)(c:List D)(d:D),xs[i]? =some c->c[j]? =some d->d.one=true/\∃v,olds[i*P.cellsOf e'+j]? =some v/\V R w v d:=by
    by_cases hx0:xs=[]
    .subst hx0;exact⟨[],by simp,by simp,by simp⟩
    .obtain⟨b,o',size,hba,q1,q2,q3⟩:=d5L hx0;cases hba;have mI:size=P.cellsOf e':=by
      cases xs with
      |nil=>exact absurd rfl hx0
      |cons c l=>rw[<-q2 c (.head _),hlx c (.head _)]
     subst mI;obtain⟨olds,n1,n2,_,n4⟩:=b1n q2 q3;exact⟨olds,n1,n2,n4⟩
   obtain⟨olds,o1,o2,o3⟩:=holds;have hb1:xs.length+ys.length<=140737488355328:=by rw[Nat.mul_add]at hbd;omega
   have hb2:(xs.length+ys.length)*P.bytesOf e'<=140737488355328:=by rw[Nat.mul_add]at hbd;omega
   obtain⟨news,b9u,h5⟩:=c0x hr;have h2:news.length=ys.length*P.cellsOf e':=by rw[b9u.newsLen,yN]
   by_cases gK:ys=[]
   .have hn0:=e4S b9u gK;subst gK;subst hn0;refine⟨.slice (some ⟨g,0,none⟩) xs.length cap,w,R,μ,.inl (a6O a w _ w ?_),jD,.d _ _ ?_,⟨.inr ⟨g,_,cap,cur,rfl,hbg,hg,hnc,hcm,sN,hnR⟩,a4q,vs,sU,hap⟩,.refl _ _ _⟩
    .rw[hsv];exact a6e hu hi b9u _ _ cap hnc
    .rw[List.append_nil, <- hsv];exact hV
   .have hlen:0<ys.length:=by cases ys with|nil=>exact absurd rfl gK|cons _ _=>simp
    by_cases a6N:xs.length+ys.length<=cap
    .have hmul:(xs.length+ys.length)*P.cellsOf e'<=cap*P.cellsOf e':=g3T _ a6N;have mO:xs.length*P.cellsOf e'+news.length<=cur.size:=by rw[h2,sN, <- Nat.add_mul];exact hmul
     have dD:=b3f (P:=P) (ty:=o.type) hu hi hg b9u a6N;rw[yN]at dD;generalize c5i:(cur.toList.take (xs.length*P.cellsOf e')++news++cur.toList.drop (xs.length*P.cellsOf e'+news.length)).toArray=cur' at dD;have a6s:∀k,cur'[k]? =if k<xs.length*P.cellsOf e' then cur[k]? else if k<xs.length*P.cellsOf e'+news.length then news[k-xs.length*P.cellsOf e']? else cur[k]? :=λk=>by rw[<-c5i,List.getElem?_toArray,a5g (by simpa using mO)];simp
     have b5h:bQ (.slice (some ⟨g,0,none⟩) xs.length cap)=some g:=by simp[bQ];omega
     obtain⟨q1,q2,q3⟩:=jD.d1p (g:=g) (n:=xs.length) (m:=ys.length) (s:=P.cellsOf e') (cur':=cur') (λk o' hk he=>a4q k o' hk (by rw[b5h,he])) sU (λv' hv' hsp=>(hap v' hv').1 g b5h hsp) hbg hg hnR (λoff d2N=>by rw[a6s,if_pos d2N]);have b9t:(w.setRow g cur').heap[g]? =some (.cells cur' e' (0,0)):=setRow_heap w g cur _ e' _ hg;have d5K:cur'.size=cap*P.cellsOf e':=by rw[<-c5i, <- sN];simp only[List.size_toArray,g3K,g3L,g3Y,Array.length_toList];omega
     refine⟨.slice (some ⟨g,0,none⟩) (xs.length+ys.length) cap,_,_,μ,.inl (a6O a w _ _ (by rw[hsv];exact dD)),q1,.d _ _ ?_,?_,q2⟩
     .have rL:∀(i j:Nat)(c:List D)(d:D),(xs++ys)[i]? =some c->c[j]? =some d->d.one=true/\∃v,(w.setRow g cur').cell? ⟨g,0+i*P.cellsOf e'+j,none⟩=some v/\V R w v d:=λi j c d hi' hj=>by
       rw[Nat.zero_add,cell_of_row _ _ _ cur' e' (0,0) b9t,a6s];by_cases yJ:i<xs.length
       .rw[g3k yJ]at hi';obtain⟨w1,v,w2,w3⟩:=o3 i j c d hi' hj;have aG:=(g3a.1 w2).1;have b6l:=o2 _ v w2;rw[pC,Nat.zero_add,cell_of_row _ _ _ cur e' (0,0) hg]at b6l;rw[if_pos (by omega)];exact⟨w1,v,b6l,w3⟩
       .rw[g3h (by omega)]at hi';obtain⟨w1,v,w2,w3⟩:=h5 (i-xs.length) j c d hi' hj;have aG:=(g3a.1 w2).1;have d2Q:i*P.cellsOf e'+j=xs.length*P.cellsOf e'+((i-xs.length)*P.cellsOf e'+j):=by rw[<-Nat.add_assoc, <- Nat.add_mul];congr 2;omega
        rw[d2Q,if_neg (by omega),if_pos (by omega),Nat.add_sub_cancel_left];exact⟨w1,v,w2,w3⟩
      refine .sl g 0 _ cap (P.cellsOf e') _ (λi j=>((w.setRow g cur').cell? ⟨g,0+i*P.cellsOf e'+j,none⟩).getD undef) (by simp) a6N a2i (λc hc=>by simp at hc;rcases hc with hc|hc;exact hlx c hc;exact hly c hc) (λi j hi' hj=>⟨.inr ⟨rfl,?_⟩,?_⟩) (λi j c d hi' hj=>(rL i j c d hi' hj).1) (λi j c d hi' hj=>?_)
      .have:(i+1)*P.cellsOf e'<=(xs.length+ys.length)*P.cellsOf e':=g3T _ (by omega);rw[Nat.add_mul]at this;omega
      .have yJ:i<(xs++ys).length:=by simp;omega
       have hei:=g3d yJ;have hjl:j<((xs++ys)[i]).length:=by
        have hm:(xs++ys)[i]∈xs++ys:=g3y yJ;rw[g3z]at hm;rcases hm with hm|hm
        .rw[hlx _ hm];exact hj
        .rw[hly _ hm];exact hj
       obtain⟨_,v,hv,_⟩:=rL i j _ _ hei (g3d hjl);rw[hv];rfl
      .obtain⟨_,v,hv,hvd⟩:=rL i j c d hi' hj;rw[hv];exact hvd.cA q2
     .refine⟨.inr ⟨g,_,cap,cur',rfl,hbg,b9t,a6N,hcm,d5K,λoff d2N hR=>?_⟩,λk o' hk=>by have:=a4q k o' hk;rw[b5h]at this;simpa[bQ,show cap≠0 by omega]using this,vs,q3,λv' hv'=>?_⟩
      .rcases hR with hR|⟨_,hR⟩
       .have:xs.length*P.cellsOf e'<=(xs.length+ys.length)*P.cellsOf e':=g3T _ (by omega);exact hnR off (by omega) hR
       .omega
      .have d5M:bQ (.slice (some ⟨g,0,none⟩) (xs.length+ys.length) cap)=some g:=by simp[bQ];omega
       exact⟨λg' hg' c9a=>(hap v' hv').1 g' (by rw[b5h, <- d5M];exact hg') c9a,λg' hg' c9a=>(hap v' hv').2 g' hg' (by rw[b5h, <- d5M];exact c9a)⟩
    .obtain⟨R',n1,n2,n3,n4⟩:=b0d jD (e:=e') (z:=z) a2i hzs (xs:=xs) (ys:=ys) (olds:=olds) (news:=news) cap (by unfold maxLen;omega) hlx hly o1 h2 o3 h5 rfl;refine⟨_,_,R',μ,.inl (a6O a w _ _ ?_),n1,.d _ _ n3,n4,n2⟩;rw[hsv];have:=run_append_grow_src (P:=P) w t t' o.type e' ti z hu hi hz (some ⟨g,0,none⟩) xs.length cap olds (run_firstCells_some w.drew ti.size xs.length ⟨g,0,none⟩ xs.length cap olds (by rw[o1,yN]) (by simpa using o2)) (a.eval x) ys.length news b9u (by omega) (by omega) (by rw[b0c];exact growslice_fits (by omega) hb2);rw[this];congr 3;apply Array.ext';simp[List.append_assoc]
 .cases h
end
end Go.VM
namespace Go.VM
open Go Go.RowKit
def CH(P:Program)(G:GT)(f:FuncId)(s0 s1:St):Prop:=
 ∀(base:dU)(R:Nat->Nat->Prop)(μ:Nat->Nat)(args:Array Value)(w:World),Rel P G base R μ s0 {tmps:=args,defers:=[]} w->
  Calls P f args w λe w'=>∃v R' μ',e=.returned v/\Rel P G base R' μ' s1 {tmps:=#[v],defers:=[]} w'/\Step base R w R' w'
def rk:List (Nat×Nat)->Nat->Nat
 |[],k=>k
 |p::r,k=>if p.1=k then p.2 else rk r k
mutual
def bI (K:List (Nat×Nat)):DV->DV
 |.ptr k o=>.ptr (rk K k) o
 |.mp k=>.mp (rk K k)
 |.it k=>.it (rk K k)
 |.clo f cs=>.clo f (aZ K cs)
 |.ag cs=>.ag (aZ K cs)
 |d=>d
def aZ (K:List (Nat×Nat)):List DV->List DV
 |[]=>[]
 |d::r=>bI K d::aZ K r
end
mutual
def aY (K:List (Nat×Nat)):DV->Bool
 |.ptr k _=>K.any λp=>p.1==k
 |.mp k=>K.any λp=>p.1==k
 |.it k=>K.any λp=>p.1==k
 |.clo _ cs=>bA K cs
 |.ag cs=>bA K cs
 |_=>true
def bA (K:List (Nat×Nat)):List DV->Bool
 |[]=>true
 |d::r=>aY K d&&bA K r
end
def dM(K:List (Nat×Nat)):bH->bH
 |.cells cs=>.cells (aZ K cs)
 |o=>o
def bB(K:List (Nat×Nat)):bH->Bool
 |.cells cs=>bA K cs
 |_=>true
theorem tH(K:List (Nat×Nat)):∀l,aZ K l=l.map (bI K)
 |[]=>by simp[aZ]
 |d::r=>by simp[aZ,tH K r]
theorem uX(K:List (Nat×Nat)):∀l,bA K l=true↔∀d∈l,aY K d=true
 |[]=>by simp[bA]
 |d::r=>by simp[bA,uX K r]
theorem a2j{K:List (Nat×Nat)}{k:Nat}(h:(K.any λp=>p.1==k)=true):∃p∈K,p.1=k/\rk K k=p.2:=by
 induction K with
 |nil=>simp at h
 |cons p r ih=>
  unfold rk;by_cases hp:p.1=k
  .exact⟨p,.head _,hp,by rw[if_pos hp]⟩
  .simp only[List.any_cons,g3l,beq_iff_eq,hp,false_or]at h;obtain⟨q,h1,h2,h3⟩:=ih h;exact⟨q,.tail _ h1,h2,by rw[if_neg hp];exact h3⟩
section
variable {P:Program} {G:GT} {R:Nat->Nat->Prop} {w:World} {K:List (Nat×Nat)} {μ ν:Nat->Nat}
variable{d:DV}{v:Value}
theorem TV.ren(hν:∀k,(K.any λp=>p.1==k)=true->ν k=μ (rk K k)):aY K d=true->TV R μ w v (bI K d)->TV R ν w v d:=by
 intro hk h;generalize he:bI K d=d' at h
 induction h generalizing d with
 |d v x h=>cases d<;>simp only[bI]at he<;>cases he;exact .d v x h
 |undef v=>cases d<;>simp only[bI]at he<;>cases he;exact .undef v
 |ptr k off=>cases d<;>simp only[bI]at he<;>cases he;rw[<-hν _ (by simpa[aY]using hk)];exact .ptr _ off
 |ep b o cs h=>cases d<;>simp only[bI]at he<;>cases he;exact .ep b o cs h
 |mp k=>cases d<;>simp only[bI]at he<;>cases he;rw[<-hν _ (by simpa[aY]using hk)];exact .mp _
 |it k=>cases d<;>simp only[bI]at he<;>cases he;rw[<-hν _ (by simpa[aY]using hk)];exact .it _
 |cY vs ds h1 h2=>cases d<;>simp only[bI]at he<;>cases he;exact .cY vs ds h1 h2
 |fn f=>cases d<;>simp only[bI]at he<;>cases he;exact .fn f
 |rQ b=>cases d<;>simp only[bI]at he<;>cases he;exact .rQ b
 |a0E T=>cases d<;>simp only[bI]at he<;>cases he;exact .a0E T
 |clo f vs cs h1 h2 ih=>cases d<;>simp only[bI]at he<;>cases he;rename_i cs0;simp only[aY,uX]at hk;rw[tH]at h1 ih;refine .clo f vs cs0 (by simpa using h1) λi c hi=>?_;exact ih i (bI K c) (by rw[g3j,hi];rfl) (hk c (g3e hi)) rfl
 |ag vs cs h1 h2 h3 h4 ih=>
  cases d<;>simp only[bI]at he<;>cases he;rename_i cs0;simp only[aY,uX]at hk;rw[tH]at h1 h2 h3 ih;refine .ag vs cs0 (by simpa using h1) (λi hi=>h2 i (by simpa using hi)) (λi c hi=>?_) λi c hi=>?_
  .have:=h3 i (bI K c) (by rw[g3j,hi];rfl);rw[<-this];cases c<;>rfl
  .exact ih i (bI K c) (by rw[g3j,hi];rfl) (hk c (g3e hi)) rfl
theorem TV.c0z(hν:∀k,(K.any λp=>p.1==k)=true->ν k=μ (rk K k)):aY K d=true->TV R ν w v d->TV R μ w v (bI K d):=by
 intro hk h
 induction h with
 |d v x h=>exact .d v x h
 |undef v=>exact .undef v
 |ptr k off=>rw[hν _ (by simpa[aY]using hk)];exact .ptr _ off
 |ep b o cs h=>exact .ep b o cs h
 |mp k=>rw[hν _ (by simpa[aY]using hk)];exact .mp _
 |it k=>rw[hν _ (by simpa[aY]using hk)];exact .it _
 |cY vs ds h1 h2=>exact .cY vs ds h1 h2
 |fn f=>exact .fn f
 |rQ b=>exact .rQ b
 |a0E T=>exact .a0E T
 |clo f vs cs h1 h2 ih=>simp only[aY,uX]at hk;simp only[bI,tH];refine .clo f vs _ (by simpa using h1) λi c hi=>?_;rw[g3j]at hi;obtain⟨c0,zO,rfl⟩:=g2Y.1 hi;exact ih i c0 zO (hk c0 (g3e zO))
 |ag vs cs h1 h2 h3 h4 ih=>
  simp only[aY,uX]at hk;simp only[bI,tH];refine .ag vs _ (by simpa using h1) (λi hi=>h2 i (by simpa using hi)) (λi c hi=>?_) λi c hi=>?_
  .rw[g3j]at hi;obtain⟨c0,zO,rfl⟩:=g2Y.1 hi;have:=h3 i c0 zO;rw[<-this];cases c0<;>rfl
  .rw[g3j]at hi;obtain⟨c0,zO,rfl⟩:=g2Y.1 hi;exact ih i c0 zO (hk c0 (g3e zO))
theorem c0A(d:DV):(bI K d).cell=d.cell:=by cases d<;>rfl
theorem mV.ren{b:Nat}{o:bH}(hν:∀k,(K.any λp=>p.1==k)=true->ν k=μ (rk K k))(hk:bB K o=true)(h:mV R μ w b (dM K o)):mV R ν w b o:=by
 cases o with
 |cells cs=>obtain⟨vs,T,h1,h2,h3,h4⟩:=h;rw[tH]at h2 h3 h4;simp only[bB,uX]at hk;refine⟨vs,T,h1,by simpa using h2,λi d hi=>?_,λT' hm=>h4 T' (g3u.2 ⟨_,hm,rfl⟩)⟩;obtain⟨q1,q2⟩:=h3 i (bI K d) (by rw[g3j,hi];rfl);exact⟨by rw[c0A]at q1;exact q1,q2.ren hν (hk d (g3e hi))⟩
 |map es=>exact h
 |iter s p=>exact h
 |bld T u es=>exact h
theorem mV.c0z{b:Nat}{o:bH}(hν:∀k,(K.any λp=>p.1==k)=true->ν k=μ (rk K k))(hk:bB K o=true)(h:mV R ν w b o):mV R μ w b (dM K o):=by
 cases o with
 |cells cs=>
  obtain⟨vs,T,h1,h2,h3,h4⟩:=h;simp only[bB,uX]at hk;refine⟨vs,T,h1,by simp[tH,h2],λi d hi=>?_,λT' hm=>?_⟩
  .rw[tH,g3j]at hi;obtain⟨d0,hd0,rfl⟩:=g2Y.1 hi;exact⟨by rw[c0A];exact(h3 i d0 hd0).1,(h3 i d0 hd0).2.c0z hν (hk d0 (g3e hd0))⟩
  .rw[tH]at hm;obtain⟨d0,hd0,he⟩:=g3u.1 hm;cases d0<;>simp only[bI]at he<;>cases he;exact h4 _ hd0
 |map es=>exact h
 |iter s p=>exact h
 |bld T u es=>exact h
end
end Go.VM
end
