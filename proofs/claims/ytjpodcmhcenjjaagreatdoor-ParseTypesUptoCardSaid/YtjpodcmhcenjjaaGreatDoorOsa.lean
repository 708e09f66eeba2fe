/- Lemmas that the law of this claim needs (Z1). No condition. -/
import Derived.WalkKit
import Derived.Laws.StructEq
import Derived.Laws.Strings2
import Derived.MapKept
import Derived.Deep.AppendSrc
set_option linter.unusedVariables false
set_option linter.unusedSimpArgs false
set_option linter.unusedSectionVars false
set_option maxRecDepth 100000
set_option maxHeartbeats 64000000
theorem f7G:type_of% @Option.map_eq_some_iff:=@Option.map_eq_some_iff
theorem f7H:type_of% @Bool.and_eq_true:=@Bool.and_eq_true
theorem f7I:type_of% @List.getElem?_eq_some_iff:=@List.getElem?_eq_some_iff
theorem f7J:type_of% @Array.getD_eq_getD_getElem?:=@Array.getD_eq_getD_getElem?
theorem f7K:type_of% @List.all_eq_true:=@List.all_eq_true
theorem f7L:type_of% @List.getElem?_eq_getElem:=@List.getElem?_eq_getElem
theorem f7M:type_of% @List.mem_of_getElem?:=@List.mem_of_getElem?
theorem f7N:type_of% @Option.some.injEq:=@Option.some.injEq
theorem f7O:type_of% @List.mem_singleton:=@List.mem_singleton
theorem f7P:type_of% @List.getElem?_append_right:=@List.getElem?_append_right
theorem f7Q:type_of% @Array.getElem?_eq_some_iff:=@Array.getElem?_eq_some_iff
theorem f7R:type_of% @List.getElem?_map:=@List.getElem?_map
theorem f7S:type_of% @List.getElem?_append_left:=@List.getElem?_append_left
theorem f7T:type_of% @Bool.or_eq_true:=@Bool.or_eq_true
theorem f7U:type_of% @List.drop_eq_getElem_cons:=@List.drop_eq_getElem_cons
theorem f7V:type_of% @Option.bind_eq_some_iff:=@Option.bind_eq_some_iff
theorem f7W:type_of% @List.take_succ_eq_append_getElem:=@List.take_succ_eq_append_getElem
theorem f7X:type_of% @Nat.le_refl:=@Nat.le_refl
theorem f7Y:type_of% @List.getElem?_of_mem:=@List.getElem?_of_mem
theorem f7Z:type_of% @Array.getElem?_eq_getElem:=@Array.getElem?_eq_getElem
theorem f8a:type_of% @List.getElem?_drop:=@List.getElem?_drop
section
namespace Go.VM
open Go Go.RowKit
inductive D where
 |int (k:IntKind) (n:Int)
 |bool (b:Bool)
 |str (s:List UInt8)
 |aF
 |sl (es:List (List D))
 |agg (cs:List D)
inductive DV where
 |d (x:D)
 |undef
 |ptr (key off:Nat)
 |ep (cs:List D)
 |mp (key:Nat)
 |it (key:Nat)
 |bY (ds:List D)
 |fn (f:FuncId)
 |oY
 |yC (T:TypeId)
 |clo (f:FuncId) (b9o:List DV)
 |ag (cs:List DV)
inductive aW where
 |cells (cs:List DV)
 |map (es:List (D×D))
 |iter (s:List UInt8) (pos:Nat)
 |bld (T:TypeId) (u:Bool) (es:List (List D))
inductive Loc where
 |t (i:Nat)
 |c (key off:Nat)
 deriving DecidableEq
inductive OA where
 |no
 |al (l:Loc)
 |fresh (e:TypeId)
structure St where
 tmps:List DV
 H:List (Nat×aW)
 own:List (TypeId×List Loc)
def D.one:D->Bool
 | .agg _=>false
 |_=>true
def D.cells:D->List D
 | .agg cs=>cs
 |x=>[x]
def yD:Value->Option D
 | .int k n=>some (.int k n)
 | .bool b=>some (.bool b)
 | .string s=>some (.str s.data.toList)
 | .slice none 0 0=>some .aF
 |_=>none
def wS:List Value->Option (List D)
 |[]=>some []
 |v::l=>match yD v,wS l with
  |some x,some ds=>some (x::ds)
  |_,_=>none
def ofConst:Value->DV
 | .agg cs=>match wS cs.toList with
  |some ds=>.d (.agg ds)
  |none=>.undef
 |v=>match yD v with
  |some x=>.d x
  |none=>.undef
abbrev GT:=Nat->Option (List D)
def St.eval(G:GT)(st:St):Operand->DV
 | .tmp t=>st.tmps.getD t (.bY [])
 | .const v=>ofConst v
 | .global g=>match G g with
  |some cs=>.ep cs
  |none=>.undef
 | .func f=>.fn f
def getKey(k:Nat):List (Nat×aW)->Option aW
 |[]=>none
 |(k',o)::r=>if k'=k then some o else getKey k r
def a0q(k:Nat)(o:aW):List (Nat×aW)->List (Nat×aW)
 |[]=>[]
 |(k',o')::r=>if k'=k then(k,o)::r else(k',o')::a0q k o r
def kZ(k:Nat)(o:aW):List (Nat×aW)->List (Nat×aW)
 |[]=>[(k,o)]
 |(k',o')::r=>if k<k' then(k,o)::(k',o')::r else(k',o')::kZ k o r
def bP(k:Nat)(o:aW)(H:List (Nat×aW)):List (Nat×aW):=if (getKey k H).isSome then a0q k o H else kZ k o H
mutual
def mentions (key:Nat):DV->Bool
 | .ptr k _=>k==key
 | .mp k=>k==key
 | .it k=>k==key
 | .clo _ cs=>mN key cs
 | .ag cs=>mN key cs
 |_=>false
def mN (key:Nat):List DV->Bool
 |[]=>false
 |d::r=>mentions key d||mN key r
end
def kV(key:Nat)(d:DV):DV:=if mentions key d then .undef else d
def a1t(key:Nat):aW->aW
 | .cells cs=>.cells (cs.map (kV key))
 |o=>o
def cG(l:Loc)(own:List (TypeId×List Loc)):List (TypeId×List Loc):=own.map λc=>(c.1,c.2.filter λx=>decide (x≠l))
def Loc.yE(key:Nat):Loc->Bool
 | .c k _=>k==key
 |_=>false
def dropKey(key:Nat)(own:List (TypeId×List Loc)):List (TypeId×List Loc):=own.map λc=>(c.1,c.2.filter λx=> !x.yE key)
def addAlias(src dst:Loc)(own:List (TypeId×List Loc)):List (TypeId×List Loc):=own.map λc=>if c.2.contains src then(c.1,dst::c.2) else c
def dU(dst:Loc)(act:OA)(own:List (TypeId×List Loc)):List (TypeId×List Loc):=
 match act with
 | .no=>cG dst own
 | .al l=>if l=dst then own else addAlias l dst (cG dst own)
 | .fresh e=>(e,[dst])::cG dst own
def finish(st:St)(dst:Option Tmp)(v:DV)(act:OA):St:=
 match dst with
 |none=>st
 |some d=>{st with tmps:=st.tmps.set d v,own:=dU (.t d) act st.own}
def eL(st:St)(key:Nat)(o:aW):St:=
 {tmps:=st.tmps.map (kV key),H:=bP key o (st.H.map λp=>(p.1,a1t key p.2)),own:=dropKey key st.own}
def pE:TypeDesc->Bool
 | .struct _| .array _ _=>true
 |_=>false
def takeD(P:Program)(t:TypeId)(cs:List D):Option D:=
 match P.underlying t with
 |some d=>if pE d then(if P.cellsOf t<=cs.length then some (.agg (cs.take (P.cellsOf t))) else none) else cs.head?
 |none=>none
def b9p:Value->Bool
 | .pointer none=>true
 |_=>false
def cellOf(v:Value):DV:=match yD v with
 |some x=>.d x
 |none=>.undef
def a1u(t:TypeId)(v:Value):DV:=match yD v with
 |some x=>.d x
 |none=>if b9p v then .yC t else .undef
def c1L(P:Program)(t:TypeId):Option (List DV):=((P.info? t).bind (·.zero)).map λz=>z.cells.toList.map (a1u t)
def jH(P:Program)(t:TypeId):Option (List D):=((P.info? t).bind (·.zero)).bind λz=>wS z.cells.toList
def c1M(P:Program)(t:TypeId):Option (List DV):=((P.info? t).bind (·.zero)).bind λz=>if z.cells.toList.all (·.oneCell') then some (z.cells.toList.map cellOf) else none
def b3r:List DV->aW
 |[.yC T,.d .aF]=>.bld T false []
 |cs=>.cells cs
def eQ(P:Program)(t:TypeId):Option TypeId:=
 match P.underlying t with
 |some (.slice e)=>some e
 |_=>none
def aG(P:Program)(t:TypeId)(i:Nat):Option (Nat×TypeId):=
 match P.underlying t with
 |some (.struct fs)=>(fs[i]?).map λf=>(f.offset,f.type)
 |_=>none
def d6S(op:BinOp):D->D->Option D
 | .int k a,.int k' b=>
  if k≠k' then none else
  match op with
  | .add=>some (.int k (k.wrap (a+b)))
  | .sub=>some (.int k (k.wrap (a-b)))
  | .mul=>some (.int k (k.wrap (a*b)))
  | .quo=>if b=0 then none else some (.int k (k.wrap (a.tdiv b)))
  | .rem=>if b=0 then none else some (.int k (a.tmod b))
  | .eql=>some (.bool (a==b))
  | .neq=>some (.bool (a !=b))
  | .lss=>some (.bool (decide (a<b)))
  | .leq=>some (.bool (decide (a<=b)))
  | .gtr=>some (.bool (decide (a>b)))
  | .geq=>some (.bool (decide (a>=b)))
  |_=>none
 | .str a,.str b=>
  match op with
  | .add=>if a.length+b.length<=9223372036854775807 then some (.str (a++b)) else none
  | .eql=>some (.bool (a==b))
  | .neq=>some (.bool !(a==b))
  | .lss=>some (.bool (Op.bytesLess a b))
  | .leq=>some (.bool (Op.bytesLess a b||a==b))
  | .gtr=>some (.bool !(Op.bytesLess a b||a==b))
  | .geq=>some (.bool !(Op.bytesLess a b))
  |_=>none
 |_,_=>none
def a0r:D->D->Option Bool
 | .int k a,.int k' b=>if k=k' then some (a==b) else none
 | .str a,.str b=>some (a==b)
 | .bool a,.bool b=>some (a==b)
 |_,_=>none
def zR:List D->List D->Option Bool
 |[],[]=>some true
 |x::xs,y::ys=>match a0r x y,zR xs ys with
  |some a,some b=>some (a&&b)
  |_,_=>none
 |_,_=>none
def pZ:TypeDesc->Bool
 | .bool| .int _| .string=>true
 |_=>false
def a2w(P:Program):Nat->List Field->Option (List TypeDesc)
 |_,[]=>some []
 |k,f::fs=>match P.underlying f.type,a2w P (k+1) fs with
  |some d,some ds=>if f.name≠ "_" /\f.offset=k/\pZ d=true then some (d::ds) else none
  |_,_=>none
def b7D(P:Program)(t:TypeId):Option (List TypeDesc):=
 match P.underlying t with
 |some (.struct fs)=>if P.eqGuardType P.depth t=false/\P.stoodInHeld t=false then a2w P 0 fs.toList else none
 |_=>none
def rR:TypeDesc->D->Bool
 | .int _,.int _ _=>true
 | .string,.str _=>true
 | .bool,.bool _=>true
 |_,_=>false
def yF:List TypeDesc->List D->Bool
 |[],[]=>true
 |d::ds,x::xs=>rR d x&&yF ds xs
 |_,_=>false
def c5t:UnOp->D->Option D
 | .neg,.int k n=>some (.int k (k.wrap (0-n)))
 | .not,.bool b=>some (.bool !b)
 |_,_=>none
def overwrite{α:Type}(cells:List α)(off:Nat)(vs:List α):List α:=cells.take off++vs++cells.drop (off+vs.length)
def b7E(P:Program)(t:TypeId)(cells:List D):List (Nat×D)->Option (List D)
 |[]=>some cells
 |(i,v)::rest=>
  match aG P t i with
  |none=>none
  |some (off,u)=>if v.cells.length=P.cellsOf u/\off+v.cells.length<=cells.length then b7E P t (overwrite cells off v.cells) rest else none
def isD:DV->Option D
 | .d x=>some x
 |_=>none
def wT:List DV->Option (List D)
 |[]=>some []
 | .d x::l=>match wT l with
  |some ds=>some (x::ds)
  |none=>none
 |_::_=>none
def DV.cell:DV->Bool
 | .d x=>x.one
 | .it _=>false
 | .bY _=>false
 | .ag _=>false
 |_=>true
def b7F:DV->Bool
 | .yC _=>false
 |_=>true
def uE:DV->Option (List DV)
 | .d y=>some (y.cells.map .d)
 | .ptr k o=>some [.ptr k o]
 | .ep cs=>some [.ep cs]
 | .mp k=>some [.mp k]
 | .fn f=>some [.fn f]
 | .clo f cs=>some [.clo f cs]
 | .ag cs=>if cs.all b7F then some cs else none
 | .oY=>some [.oY]
 |_=>none
def b7G:DV->Bool
 | .undef=>false
 | .yC _=>false
 |c=>c.cell
def takeA(cs:List DV):Option DV:=match wT cs with
 |some ds=>some (.d (.agg ds))
 |none=>if cs.all b7G then some (.ag cs) else none
def b1o(P:Program)(t:TypeId)(cs:List DV):Option DV:=
 match P.underlying t with
 |some d=>if pE d then(if P.cellsOf t<=cs.length then takeA (cs.take (P.cellsOf t)) else none) else cs.head?
 |none=>none
def a2b(G:GT)(st:St):List (Nat×Operand)->Option (List (Nat×D))
 |[]=>some []
 |(i,x)::l=>match st.eval G x,a2b G st l with
  | .d y,some ds=>some ((i,y)::ds)
  |_,_=>none
def yX(G:GT)(st:St):List (Nat×Operand)->Option (List (Nat×List DV))
 |[]=>some []
 |(i,x)::l=>match uE (st.eval G x),yX G st l with
  |some y,some ds=>some ((i,y)::ds)
  |_,_=>none
def a8M(P:Program)(t:TypeId)(cells:List DV):List (Nat×List DV)->Option (List DV)
 |[]=>some cells
 |(i,v)::rest=>
  match aG P t i with
  |none=>none
  |some (off,u)=>if v.length=P.cellsOf u/\off+v.length<=cells.length then a8M P t (overwrite cells off v) rest else none
def uF:Operand->OA
 | .tmp s=>.al (.t s)
 |_=>.no
def idx(x:D)(n:Nat):Option Nat:=
 match x with
 | .int _ i=>if 0<=i/\i<n then some i.toNat else none
 |_=>none
def bound(x:D)(n:Nat):Option Nat:=
 match x with
 | .int _ i=>if 0<=i/\i<=n then some i.toNat else none
 |_=>none
def eW(G:GT)(st:St)(x:Option Operand)(c8N n:Nat):Option Nat:=
 match x with
 |none=>some c8N
 |some y=>match st.eval G y with
  | .d z=>bound z n
  |_=>none
structure Out where
 v:DV
 act:OA
 st:St
def findKeyD(k:D):List (D×D)->Option (Option D)
 |[]=>some none
 |(k',v)::r=>match a0r k k' with
  |some true=>some (some v)
  |some false=>findKeyD k r
  |none=>none
def a6d(k v:D):List (D×D)->Option (List (D×D))
 |[]=>some [(k,v)]
 |(k',v')::r=>match a0r k k' with
  |some true=>some ((k,v)::r)
  |some false=>match a6d k v r with
   |some r'=>some ((k',v')::r')
   |none=>none
  |none=>none
def a6e(k:D):List (D×D)->Option (List (D×D))
 |[]=>some []
 |(k',v')::r=>match a0r k k' with
  |some true=>some r
  |some false=>match a6e k r with
   |some r'=>some ((k',v')::r')
   |none=>none
  |none=>none
end Go.VM
namespace Go.VM
open Go Go.RowKit
section
variable (P:Program) (G:GT)
def sC(v:DV)(a:OA):OA:=
 match v with
 | .d (.sl _)=>a
 |_=>.no
def a2x(x:Operand)(st:St):Option Out:=some ⟨st.eval G x,sC (st.eval G x) (uF x),st⟩
def b3s(c a b:Operand)(st:St):Option Out:=
 match st.eval G c with
 | .d (.bool t)=>some ⟨if t then st.eval G a else st.eval G b,.no,st⟩
 |_=>none
def b0v(dst:Option Tmp)(e:TypeId)(st:St):Option Out:=
 match dst,jH P e with
 |some d,some cs=>if d<100000 then some ⟨.ptr d 0,.no,eL st d (.cells (cs.map .d))⟩ else none
 |some d,none=>
  match c1L P e with
  |some cs=>if d<100000 then some ⟨.ptr d 0,.no,eL st d (b3r cs)⟩ else none
  |none=>none
 |_,_=>none
def d6T(dst:Option Tmp)(x:Operand)(st:St):Option Out:=
 match dst,uE (st.eval G x)with
 |some d,some cs=>if decide (d<100000)&&(cs.all λc=> !mentions d c) then some ⟨.ptr d 0,.no,eL st d (.cells cs)⟩ else none
 |_,_=>none
def a6f(fn:Fn)(first captured:Array Operand)(st:St):Option Out:=
 match fn with
 | .func f=>if first.isEmpty then some ⟨if captured.isEmpty then .fn f else .clo f (captured.toList.map (st.eval G)),.no,st⟩ else none
 |_=>none
def cU(t:TypeId):Bool:=
 match P.underlying t with
 |some (.struct fs)=>fs.toList.all λf=>(P.info? f.type).isSome
 |_=>false
def a6g(t:TypeId)(parts:Array (Nat×Operand))(st:St):Option Out:=
 match c1M P t,yX G st parts.toList with
 |some z,some ps=>(a8M P t z ps).map λcs=>⟨.ag cs,.no,st⟩
 |_,_=>none
def a7w(t:TypeId)(parts:Array (Nat×Operand))(st:St):Option Out:=
 if cU P t then
  match jH P t,a2b G st parts.toList with
  |some z,some ps=>(b7E P t z ps).map λcs=>⟨.d (.agg cs),.no,st⟩
  |_,_=>a6g P G t parts st
 else none
def gK(e:TypeId):Bool:=
 match P.info? e with
 |some i=>decide (0<i.size)&&(match i.zero with|some z=>z.cells.size==i.size|none=>false)
 |none=>false
def sD(t:TypeId)(len:Nat)(parts:Array (Nat×Operand))(st:St):Option Out:=
 match eQ P t,a2b G st parts.toList with
 |some e,some ps=>
  if gK P e&&(ps.map (·.1)==List.range len)&&(ps.all λp=>p.2.cells.length==P.cellsOf e)&&decide (len*P.cellsOf e<=2 ^ 24) then
   some ⟨.d (.sl (ps.map λp=>p.2.cells)),.fresh e,st⟩
  else none
 |_,_=>none
def b3t(t:TypeId)(x:Operand)(st:St):Option Out:=
 match st.eval G x with
 | .ptr k off=>
  match getKey k st.H with
  |some (.cells cs)=>(b1o P t (cs.drop off)).map λy=>⟨y,sC y (.al (.c k off)),st⟩
  |_=>none
 | .ep cs=>(takeD P t cs).map λy=>⟨.d y,.no,st⟩
 |_=>none
def uG(t:TypeId)(a x:Operand)(st:St):Option Out:=
 match st.eval G a,uE (st.eval G x)with
 | .ptr k off,some ys=>
  match getKey k st.H with
  |some (.cells cs)=>
   if ys.length=P.cellsOf t/\P.cellsOf t≠0/\off+ys.length<=cs.length then
    some ⟨.bY [],.no,{st with H:=bP k (.cells (overwrite cs off ys)) st.H,own:=if (st.eval G x).cell then dU (.c k off) (sC (st.eval G x) (uF x)) st.own else dropKey k st.own}⟩
   else none
  |_=>none
 |_,_=>none
def uT(x:Operand)(st:St):Option Out:=
 match st.eval G x with
 | .ptr k off=>some ⟨.ptr k off,.no,st⟩
 | .ep cs=>some ⟨.ep cs,.no,st⟩
 | .fn f=>some ⟨.fn f,.no,st⟩
 | .clo f cs=>some ⟨.clo f cs,.no,st⟩
 |_=>none
def d1z(op:BinOp)(t:TypeId)(a b:D):Option D:=
 match a,b with
 | .bool x,.bool y=>
  match P.underlying t,op with
  |some .bool,.eql=>some (.bool (x==y))
  |some .bool,.neq=>some (.bool !(x==y))
  |_,_=>none
 | .agg xs,.agg ys=>
  match b7D P t with
  |some ds=>
   if yF ds xs then
    match op,zR xs ys with
    | .eql,some r=>some (.bool r)
    | .neq,some r=>some (.bool !r)
    |_,_=>none
   else none
  |none=>none
 |a,b=>d6S op a b
def c5u(op:BinOp)(t:TypeId)(x y:Operand)(st:St):Option Out:=
 match st.eval G x,st.eval G y with
 | .d a,.d b=>(d1z P op t a b).map λc=>⟨.d c,.no,st⟩
 |_,_=>none
def b9q:Operand->Bool
 | .const (.slice none 0 0)=>true
 |_=>false
def a0s(op:BinOp)(t:TypeId)(x:Operand)(st:St):Option Out:=
 match P.underlying t,op,st.eval G x with
 |some (.slice _),.eql,.d (.sl es)=>some ⟨if es.length=0 then .oY else .d (.bool false),.no,st⟩
 |some (.slice _),.neq,.d (.sl es)=>some ⟨if es.length=0 then .oY else .d (.bool true),.no,st⟩
 |some (.slice _),.eql,.d .aF=>some ⟨.oY,.no,st⟩
 |some (.slice _),.neq,.d .aF=>some ⟨.oY,.no,st⟩
 |_,_,_=>none
def b3u(op:BinOp)(t:TypeId)(x y:Operand)(st:St):Option Out:=if b9q y then a0s P G op t x st else c5u P G op t x y st
def vUn(op:UnOp)(x:Operand)(st:St):Option Out:=
 match st.eval G x with
 | .d a=>(c5t op a).map λc=>⟨.d c,.no,st⟩
 |_=>none
def wU:List (List D)->Option (List UInt8)
 |[]=>some []
 |[.int .u8 n]::l=>(wU l).map λbs=>UInt8.ofNat n.toNat::bs
 |_=>none
def c8O(e:TypeId):Bool:=
 match P.underlying e with
 |some (.int .u8)=>true
 |_=>false
def c7B(src dst:TypeId)(a:D):Option D:=
 match P.underlying src,P.underlying dst,a with
 |some _,some (.int k),.int _ n=>some (.int k (k.wrap n))
 |some _,some .string,.str s=>some (.str s)
 |some (.slice e),some .string,.sl es=>if c8O P e then(wU es).map .str else none
 |some (.slice e),some .string,.aF=>if c8O P e then some (.str []) else none
 |_,_,_=>none
def b3v(src dst:TypeId)(x:Operand)(st:St):Option Out:=
 match st.eval G x with
 | .d a=>(c7B P src dst a).map λc=>⟨.d c,.no,st⟩
 |_=>none
def a8N(dst:Option Tmp)(r:Option Operand)(st:St):Option Out:=
 match dst,r with
 |some d,none=>if d<100000 then some ⟨.mp d,.no,eL st d (.map [])⟩ else none
 |_,_=>none
def c1N(t:TypeId):Option D:=((P.info? t).bind (·.zero)).bind λz=>isD (ofConst z)
def mapOf(t:TypeId):Option (TypeId×TypeId):=
 match P.underlying t with
 |some (.map k e)=>(match P.underlying k with|some d=>if pZ d then some (k,e) else none|none=>none)
 |_=>none
def sV(t:TypeId)(k:D):Bool:=
 match P.underlying t with
 |some d=>rR d k
 |none=>false
def a6h(t:TypeId)(m k:Operand)(ok:Bool)(st:St):Option Out:=
 match mapOf P t,st.eval G m,st.eval G k with
 |some (kt,e),.mp key,.d kk=>
  match getKey key st.H,c1N P e,sV P kt kk with
  |some (.map es),some z,true=>(findKeyD kk es).map λr=>⟨if ok then .bY [r.getD z,.bool r.isSome] else .d (r.getD z),.no,st⟩
  |_,_,_=>none
 |_,_,_=>none
def a0t(t:TypeId)(m k v:Operand)(st:St):Option Out:=
 match mapOf P t,st.eval G m,st.eval G k,st.eval G v with
 |some (kt,_),.mp key,.d kk,.d x=>
  match getKey key st.H,sV P kt kk with
  |some (.map es),true=>(a6d kk x es).map λes'=>⟨.bY [],.no,{st with H:=bP key (.map es') st.H}⟩
  |_,_=>none
 |_,_,_,_=>none
def a0u(x:Operand)(i:Nat)(st:St):Option Out:=
 match st.eval G x with
 | .bY ds=>(ds[i]?).map λy=>⟨.d y,.no,st⟩
 |_=>none
def a7x(t:TypeId)(x:Operand)(i:Nat)(st:St):Option Out:=
 match st.eval G x,aG P t i with
 | .d (.agg cs),some (off,u)=>(takeD P u (cs.drop off)).map λy=>⟨.d y,.no,st⟩
 |_,_=>none
def a7y(t:TypeId)(x i:Operand)(st:St):Option Out:=
 match P.underlying t,st.eval G x,st.eval G i with
 |some .string,.d (.str s),.d n=>(idx n s.length).bind λj=>(s[j]?).map λb=>⟨.d (.int .u8 b.toNat),.no,st⟩
 |some (.array len e),.d (.agg cs),.d n=>(idx n len).bind λj=>(takeD P e (cs.drop (j*P.cellsOf e))).map λy=>⟨.d y,.no,st⟩
 |_,_,_=>none
def uH(t:TypeId)(x i:Operand)(st:St):Option Out:=
 match P.underlying t,st.eval G x,st.eval G i with
 |some (.slice e),.d (.sl es),.d n=>(idx n es.length).bind λj=>(es[j]?).bind λcs=>if cs.length=P.cellsOf e then some ⟨.ep cs,.no,st⟩ else none
 |some (.array len e),.ptr k off,.d n=>if P.cellsOf e=0 then none else(idx n len).map λj=>⟨.ptr k (off+j*P.cellsOf e),.no,st⟩
 |some (.array len e),.ep cs,.d n=>if P.cellsOf e=0 then none else(idx n len).map λj=>⟨.ep (cs.drop (j*P.cellsOf e)),.no,st⟩
 |_,_,_=>none
def sE(t:TypeId)(x:Operand)(i:Nat)(st:St):Option Out:=
 match aG P t i with
 |some (off,u)=>
  if P.cellsOf u=0 then none else
  match st.eval G x with
  | .ptr k o=>some ⟨.ptr k (o+off),.no,st⟩
  | .ep cs=>some ⟨.ep (cs.drop off),.no,st⟩
  |_=>none
 |none=>none
def a7z(t:TypeId)(x:Operand)(lo hi mx:Option Operand)(st:St):Option Out:=
 match P.underlying t,st.eval G x,mx with
 |some .string,.d (.str s),none=>(eW G st hi s.length s.length).bind λh=>(eW G st lo 0 h).map λl=>⟨.d (.str ((s.take h).drop l)),.no,st⟩
 |some (.slice e),.d (.sl es),none=>
  if P.cellsOf e≠0/\(es.all λc=>c.length==P.cellsOf e)=true then
   (eW G st hi es.length es.length).bind λh=>(eW G st lo 0 h).map λl=>⟨.d (.sl ((es.take h).drop l)),.no,st⟩
  else none
 |some (.slice e),.d .aF,none=>if P.cellsOf e≠0 then(eW G st hi 0 0).bind λh=>(eW G st lo 0 h).map λ_=>⟨.d .aF,.no,st⟩ else none
 |some (.slice e),.d (.sl _),some m=>if P.cellsOf e≠0/\lo.isNone=true/\eW G st hi 1 0=some 0/\eW G st (some m) 1 0=some 0 then some ⟨.d .aF,.no,st⟩ else none
 |some (.slice e),.d .aF,some m=>if P.cellsOf e≠0/\lo.isNone=true/\eW G st hi 1 0=some 0/\eW G st (some m) 1 0=some 0 then some ⟨.d .aF,.no,st⟩ else none
 |_,_,_=>none
def b9r(dst:Option Tmp)(t:TypeId)(x:Operand)(st:St):Option Out:=
 match dst,P.underlying t,st.eval G x with
 |some d,some .string,.d (.str s)=>if d<100000 then some ⟨.it d,.no,eL st d (.iter s 0)⟩ else none
 |_,_,_=>none
def c7C(it:Operand)(isString:Bool)(st:St):Option Out:=
 match st.eval G it,isString with
 | .it k,true=>
  match getKey k st.H with
  |some (.iter s pos)=>
   if pos<s.length then
    some ⟨.bY [.bool true,.int .i64 pos,.int .i32 (Utf8.decode ⟨s.toArray⟩ pos).1],.no,{st with H:=bP k (.iter s (pos+(Utf8.decode ⟨s.toArray⟩ pos).2)) st.H}⟩
   else some ⟨.bY [.bool false],.no,st⟩
  |_=>none
 |_,_=>none
def c8P(t:TypeId)(x:Operand)(st:St):Option Out:=
 match P.underlying t,st.eval G x with
 |some .string,.d (.str s)=>some ⟨.d (.int .i64 s.length),.no,st⟩
 |some (.slice _),.d (.sl es)=>some ⟨.d (.int .i64 es.length),.no,st⟩
 |some (.slice _),.d .aF=>some ⟨.d (.int .i64 0),.no,st⟩
 |some (.map _ _),.mp k=>
  match getKey k st.H with
  |some (.map es)=>some ⟨.d (.int .i64 es.length),.no,st⟩
  |_=>none
 |_,_=>none
def gC(l:Loc):List (TypeId×List Loc)->Option (TypeId×List (TypeId×List Loc))
 |[]=>none
 |c::r=>if c.2.contains l then some (c.1,r) else(gC l r).map λ(e,r')=>(e,c::r')
def d6U:DV->Option (List (List D))
 | .d (.sl es)=>some es
 | .d .aF=>some []
 |_=>none
def b9s(t t':TypeId)(v:DV):Option (List (List D)):=
 if t=t' then d6U v else
 match P.underlying t',eQ P t,v with
 |some .string,some e,.d (.str s)=>if c8O P e/\P.cellsOf e=1 then some (s.map λb=>[D.int .u8 b.toNat]) else none
 |_,_,_=>none
def a2Z(t t':TypeId)(s x:Operand)(st:St):Option Out:=
 match eQ P t,b9s P t t' (st.eval G x)with
 |some e,some ys=>
  if gK P e=true/\(ys.all λc=>c.length==P.cellsOf e)=true then
   match st.eval G s,s with
   | .d .aF,_=>if ys.length*(P.bytesOf e+1)<=140737488355328 then some ⟨.d (.sl ys),.fresh e,st⟩ else none
   | .d (.sl xs),.tmp i=>
    match gC (.t i) st.own with
    |some (e',dV)=>
     if e'=e/\(xs.all λc=>c.length==P.cellsOf e)=true/\(xs.length+ys.length)*(P.bytesOf e+1)<=140737488355328 then
      some ⟨.d (.sl (xs++ys)),.fresh e,{st with own:=dV}⟩
     else none
    |none=>none
   |_,_=>none
  else none
 |_,_=>none
def b2Y(t:TypeId)(m k:Operand)(st:St):Option Out:=
 match mapOf P t,st.eval G m,st.eval G k with
 |some (kt,_),.mp key,.d kk=>
  match getKey key st.H,sV P kt kk with
  |some (.map es),true=>(a6e kk es).map λes'=>⟨.bY [],.no,{st with H:=bP key (.map es') st.H}⟩
  |_,_=>none
 |_,_,_=>none
def c8Q(x y:Operand)(st:St):Option Out:=
 match st.eval G x,st.eval G y with
 | .d (.int k a),.d (.int _ b)=>some ⟨.d (.int k (if b>a then b else a)),.no,st⟩
 |_,_=>none
def c8R(x y:Operand)(st:St):Option Out:=
 match st.eval G x,st.eval G y with
 | .d (.int k a),.d (.int _ b)=>some ⟨.d (.int k (if b<a then b else a)),.no,st⟩
 |_,_=>none
def sF(b:Builtin)(args:List Operand)(ts:List TypeId)(st:St):Option Out:=
 match b,args,ts with
 | .len,[x],[t]=>c8P P G t x st
 | .append,[s,x],[t,t']=>a2Z P G t t' s x st
 | .delete,[m,k],t::_=>b2Y P G t m k st
 | .max,[x,y],_=>c8Q G x y st
 | .min,[x,y],_=>c8R G x y st
 |_,_,_=>none
def mH(o:Oper)(st:St):Option Out:=
 match o.op with
 | .move x=>a2x G x st
 | .assign x=>a2x G x st
 | .pick c a b=>b3s G c a b st
 | .alloc e=>b0v P o.dst e st
 | .box _ x=>d6T G o.dst x st
 | .build t parts=>a7w P G t parts st
 | .buildSlice t len parts=>sD P G t len parts st
 | .load t x=>b3t P G t x st
 | .store t a x=>uG P G t a x st
 | .nilCheck x=>uT G x st
 | .binOp op t x y _=>b3u P G op t x y st
 | .unOp op _ x=>vUn G op x st
 | .convert src dst x=>b3v P G src dst x st
 | .makeMap _ r=>a8N o.dst r st
 | .makeFunc fn first captured=>a6f G fn first captured st
 | .lookup t m k ok=>a6h P G t m k ok st
 | .mapUpdate t m k v=>a0t P G t m k v st
 | .extract x i=>a0u G x i st
 | .field t x i=>a7x P G t x i st
 | .index t x i=>a7y P G t x i st
 | .indexAddr t x i=>uH P G t x i st
 | .fieldAddr t x i=>sE P G t x i st
 | .slice t x lo hi mx=>a7z P G t x lo hi mx st
 | .range t x=>b9r P G o.dst t x st
 | .next it b=>c7C G it b st
 | .call {callee:=.builtin b,args,argTypes}=>sF P G b args.toList argTypes.toList st
 |_=>none
def mZ(o:Oper)(st:St):Option (FuncId×List D):=
 match o.op with
 | .call {callee:=.value x,args, .. }=>
  match st.eval G x,wT (args.toList.map (st.eval G))with
  | .fn f,some ds=>some (f,ds)
  |_,_=>none
 |_=>none
def eB(o:Oper)(st:St):Option (FuncId×List DV):=
 match o.op with
 | .call {callee:=.value x,args, .. }=>
  match st.eval G x with
  | .fn f=>some (f,args.toList.map (st.eval G))
  | .clo f cs=>some (f,args.toList.map (st.eval G)++cs)
  |_=>none
 |_=>none
def a4H:Operand->Option Loc
 | .tmp t=>some (.t t)
 |_=>none
def kI(o:Oper):List (Option Loc):=
 match o.op with
 | .call {args, .. }=>args.toList.map a4H
 |_=>[]
def tP(ops:Array Oper)(tmps:List DV)(j:Nat):DV:=(((ops[j]?).bind (·.dst)).bind (tmps[·]?)).getD (.bY [])
def eR(o:Oper)(ops:Array Oper)(tmps:List DV):Option Bool:=
 match o.guard with
 |none=>some true
 |some (j,want)=>
  match tP ops tmps j with
  | .undef=>none
  | .oY=>none
  | .d (.bool b)=>some (b==want)
  |_=>some false
end
end Go.VM
namespace Go.VM
open Go Go.RowKit
structure cT where
 f0o:Nat->Prop
 home:Nat->Nat
instance:CoeFun cT λ_=>Nat->Prop:=⟨cT.f0o⟩
inductive V (R:Nat->Nat->Prop) (w:World):Value->D->Prop
 |int (k:IntKind) (n:Int):V R w (.int k n) (.int k n)
 |bool (b:Bool):V R w (.bool b) (.bool b)
 |str (s:List UInt8):V R w (.string ⟨s.toArray⟩) (.str s)
 |aF (ao:Option Addr):V R w (.slice ao 0 0) .aF
 |emp (ao:Option Addr) (cap:Nat):V R w (.slice ao 0 cap) (.sl [])
 |sl (b o n cap size:Nat) (es:List (List D)) (f:Nat->Nat->Value):n=es.length->n<=cap->0<size->(∀e∈es,e.length=size)->
   (∀(i j:Nat),i<n->j<size->R b (o+i*size+j)/\w.cell? ⟨b,o+i*size+j,none⟩=some (f i j))->
   (∀(i j:Nat) (e:List D) (d:D),es[i]? =some e->e[j]? =some d->d.one=true)->
   (∀(i j:Nat) (e:List D) (d:D),es[i]? =some e->e[j]? =some d->V R w (f i j) d)->V R w (.slice (some ⟨b,o,none⟩) n cap) (.sl es)
 |agg (cs:Array Value) (ds:List D):cs.size=ds.length->(∀(i:Nat) (d:D),ds[i]? =some d->d.one=true)->(∀(i:Nat) (d:D),ds[i]? =some d->V R w (cs.getD i undef) d)->V R w (.agg cs) (.agg ds)
def Run(R:Nat->Nat->Prop)(w:World)(b o:Nat)(cs:List D):Prop:=
 ∀(j:Nat) (d:D),cs[j]? =some d->d.one=true/\R b (o+j)/\∃v,w.cell? ⟨b,o+j,none⟩=some v/\V R w v d
theorem b7H{v:Value}(h:b9p v=true):v=.pointer none:=by
 unfold b9p at h;split at h
 .rfl
 .cases h
inductive TV (R:Nat->Nat->Prop) (μ:Nat->Nat) (w:World):Value->DV->Prop
 |d (v:Value) (x:D):V R w v x->TV R μ w v (.d x)
 |undef (v:Value):TV R μ w v .undef
 |ptr (k off:Nat):TV R μ w (.pointer (some ⟨μ k,off,none⟩)) (.ptr k off)
 |ep (b o:Nat) (cs:List D):Run R w b o cs->TV R μ w (.pointer (some ⟨b,o,none⟩)) (.ep cs)
 |mp (k:Nat):TV R μ w (.map (some (μ k))) (.mp k)
 |it (k:Nat):TV R μ w (.pointer (some ⟨μ k,0,none⟩)) (.it k)
 |bY (vs:Array Value) (ds:List D):vs.size=ds.length->(∀(i:Nat) (d:D),ds[i]? =some d->V R w (vs.getD i Go.undef) d)->TV R μ w (.tuple vs) (.bY ds)
 |fn (f:FuncId):TV R μ w (.func (.func f) #[] #[]) (.fn f)
 |oY (b:Bool):TV R μ w (.bool b) .oY
 |yC (T:TypeId):TV R μ w (.pointer none) (.yC T)
 |clo (f:FuncId) (vs:Array Value) (cs:List DV):vs.size=cs.length->(∀(i:Nat) (c:DV),cs[i]? =some c->TV R μ w (vs.getD i Go.undef) c)->TV R μ w (.func (.func f) #[] vs) (.clo f cs)
 |ag (vs:Array Value) (cs:List DV):vs.size=cs.length->(∀i,i<cs.length->(vs.getD i Go.undef).oneCell'=true)->(∀(i:Nat) (c:DV),cs[i]? =some c->c.cell=true)->(∀(i:Nat) (c:DV),cs[i]? =some c->TV R μ w (vs.getD i Go.undef) c)->TV R μ w (.agg vs) (.ag cs)
def e2s(v:Value):Prop:=v=.slice none 0 0\/∃ao n cap,v=.slice ao n cap/\cap≠0
def a3a(T:TypeId)(cs:List DV):Prop:=∀T',DV.yC T'∈cs->T=T'
theorem a3a.c1O{T:TypeId}{cs:List DV}(h:cs.all b7F=true):a3a T cs:=λT' hm=>by have:=f7K.1 h _ hm;cases this
def eN(R:Nat->Nat->Prop)(μ:Nat->Nat)(w:World)(b:Nat):aW->Prop
 | .cells cs=>∃vs T,w.heap[b]? =some (.cells vs T (0,0))/\vs.size=cs.length/\(∀(i:Nat) (d:DV),cs[i]? =some d->d.cell=true/\TV R μ w (vs.getD i undef) d)/\a3a T cs
 | .map es=>∃oZ clock,w.heap[b]? =some (.map oZ clock)/\oZ.size=es.length/\∀(i:Nat) (k v:D),es[i]? =some (k,v)->V R w ((oZ.getD i default).key) k/\V R w ((oZ.getD i default).val) v
 | .iter s pos=>w.heap[b]? =some (.stringIter ⟨s.toArray⟩ pos)
 | .bld T u es=>∃v0 v1 T',w.heap[b]? =some (.cells #[v0,v1] T' (0,0))/\(u=false->T'=T/\v1=.slice none 0 0)/\v0=(if u then .pointer (some ⟨b,0,none⟩) else .pointer none)/\V R w v1 (.sl es)/\e2s v1
def bF:Value->Option Nat
 | .slice (some a) _ cap=>if cap=0 then none else some a.block
 |_=>none
def pG(P:Program)(base:cT)(R:Nat->Nat->Prop)(w:World)(e:TypeId)(v:Value):Prop:=
 (∃ao,v=.slice ao 0 0)\/
 ∃g n cap cur,v=.slice (some ⟨g,0,none⟩) n cap/\base g/\w.heap[g]? =some (.cells cur e (0,0))/\n<=cap/\cap<=maxLen/\cur.size=cap*P.cellsOf e/\∀off,n*P.cellsOf e<=off-> ¬R g off
def cB(a:Act)(w:World)(μ:Nat->Nat):Loc->Option Value
 | .t i=>a.tmps[i]?
 | .c k off=>w.cell? ⟨μ k,off,none⟩
structure a3b (P:Program) (base:cT) (R:Nat->Nat->Prop) (μ:Nat->Nat) (st:St) (a:Act) (w:World) (c:TypeId×List Loc) (v:Value):Prop where
 dI:∀l∈c.2,∀u,cB a w μ l=some u->u=v
 own:pG P base R w c.1 v
 keys:∀k o,getKey k st.H=some o->bF v≠some (μ k)
def a3X(v v':Value):Prop:=∀g,bF v=some g->bF v'≠some g
structure a0v (P:Program) (base:cT) (R:Nat->Nat->Prop) (μ:Nat->Nat) (st:St) (a:Act) (w:World) (vs:List Value):Prop where
 len:vs.length=st.own.length
 one:∀(i:Nat) (c:TypeId×List Loc) (v:Value),st.own[i]? =some c->vs[i]? =some v->a3b P base R μ st a w c v
 apart:vs.Pairwise a3X
def a6I(G:GT)(base:cT)(R:Nat->Nat->Prop)(w:World):Prop:=∀g cs,G g=some cs->Run R w g 0 cs/\ ¬base g/\∃arr T fr,w.heap[g]? =some (.cells arr T fr)/\arr.size=cs.length
structure Rel (P:Program) (G:GT) (bs:cT) (R:Nat->Nat->Prop) (μ:Nat->Nat) (st:St) (a:Act) (w:World):Prop where
 defers:a.defers=[]
 size:a.tmps.size=st.tmps.length
 tmps:∀(i:Nat) (v:Value) (d:DV),a.tmps[i]? =some v->st.tmps[i]? =some d->TV R μ w v d
 gY:∀k o,getKey k st.H=some o->bs (μ k)/\(∀off, ¬R (μ k) off)/\eN R μ w (μ k) o
 inj:∀k k' o o',getKey k st.H=some o->getKey k' st.H=some o'->μ k=μ k'->k=k'
 dI:∀c∈st.own,∀k off,Loc.c k off∈c.2->∃o,getKey k st.H=some o
 own:∃vs,a0v P bs R μ st a w vs
 tQ:a6I G bs R w
 pH:∀b o,R b o->b<w.heap.size
 base:∀b,w.heap.size<=b->bs b
 pass:∀k,100000<=k->μ k=bs.home k
structure a0w (base:cT) (w w':World):Prop where
 os:w'.os=w.os
 tape:w'.tape=w.tape
 output:w'.output=w.output
 size:w.heap.size<=w'.heap.size
 block:∀k, ¬base k->w'.heap[k]? =w.heap[k]?
theorem a0w.refl(base:cT)(w:World):a0w base w w:=⟨rfl,rfl,rfl,f7X _,λ_ _=>rfl⟩
theorem a0w.trans{base:cT}{a b c:World}(h:a0w base a b)(k:a0w base b c):a0w base a c:=
 ⟨k.os.trans h.os,k.tape.trans h.tape,k.output.trans h.output,Nat.le_trans h.size k.size,λi hi=>(k.block i hi).trans (h.block i hi)⟩
theorem a0w.mono{base jP:cT}{w w':World}(h:a0w base w w')(hb:∀k,base k->jP k):a0w jP w w':=⟨h.os,h.tape,h.output,h.size,λk hk=>h.block k λhx=>hk (hb k hx)⟩
theorem a0w.drew{base:cT}{a w:World}(h:a0w base a w):a0w base a w.drew:=⟨h.os,h.tape,h.output,h.size,h.block⟩
theorem a0w.alloc{base:cT}{a w:World}(h:a0w base a w)(hB:∀b,w.heap.size<=b->base b)(o:Obj):a0w base a (w.alloc o):=
 h.trans ⟨rfl,rfl,rfl,by simp,λk hk=>by
  show(w.heap.push o)[k]? =_
  rw[Array.getElem?_push,if_neg λe=>hk (hB k (by omega))]⟩
abbrev yY(n:Nat):cT:=⟨λk=>n<=k,λ_=>0⟩
theorem a0w.below{n:Nat}{w w':World}(h:a0w (yY n) w w'):Below n w w':=⟨h.os,h.tape,h.output,h.size,λk hk=>h.block k (by simpa[yY]using hk)⟩
theorem a0w.d1A{n:Nat}{w w':World}(h:Below n w w'):a0w (yY n) w w':=⟨h.os,h.tape,h.output,h.size,λk hk=>h.block k (by simpa[yY]using hk)⟩
structure Step (base:cT) (R:Nat->Nat->Prop) (w:World) (R':Nat->Nat->Prop) (w':World):Prop where
 below:a0w base w w'
 mono:∀b o,R b o->R' b o
 new:∀b o,R' b o-> ¬R b o->base b
 cells:∀b o,R b o->w'.cell? ⟨b,o,none⟩=w.cell? ⟨b,o,none⟩
theorem Step.refl(base:cT)(R:Nat->Nat->Prop)(w:World):Step base R w R w:=⟨a0w.refl _ _,λ_ _ h=>h,λ_ _ h h'=>absurd h h',λ_ _ _=>rfl⟩
theorem Step.trans{base:cT}{R R' R'':Nat->Nat->Prop}{w w' w'':World}(h:Step base R w R' w')(h':Step base R' w' R'' w''):Step base R w R'' w'':=
 ⟨h.below.trans h'.below,λb o hr=>h'.mono b o (h.mono b o hr),λb o hr hn=>by
  by_cases hm:R' b o
  .exact h.new b o hm hn
  .exact h'.new b o hr hm,λb o hr=>(h'.cells b o (h.mono b o hr)).trans (h.cells b o hr)⟩
def CS(P:Program)(G:GT)(f:FuncId)(ds:List D)(r:DV)(own:Option TypeId):Prop:=
 ∀(w:World) (R:Nat->Nat->Prop) (args:Array Value),a6I G (yY w.heap.size) R w->(∀b o,R b o->b<w.heap.size)->args.size=ds.length->
  (∀(i:Nat) (d:D),ds[i]? =some d->V R w (args.getD i undef) d)->
  Calls P f args w λe w'=>∃v R',e=.returned v/\(∀μ,TV R' μ w' v r)/\Step (yY w.heap.size) R w R' w'/\(∀b o,R' b o->b<w'.heap.size)/\
   (∀e,own=some e->pG P (yY w.heap.size) R' w' e v)
def SW(P:Program)(G:GT)(c:Code)(st:St)(Q:Exit->St->Prop):Prop:=
 ∀base R μ a w,Rel P G base R μ st a w->c.wp P (λe a' w'=>∃st' R' μ',Q e st'/\Rel P G base R' μ' st' a' w'/\Step base R w R' w') a w
theorem V.step{R R':Nat->Nat->Prop}{w w':World}(hm:∀b o,R b o->R' b o)(hc:∀b o,R b o->w'.cell? ⟨b,o,none⟩=w.cell? ⟨b,o,none⟩){v:Value}{d:D}(h:V R w v d):V R' w' v d:=by
 induction h with
 |int k n=>exact .int k n
 |bool b=>exact .bool b
 |str s=>exact .str s
 |aF ao=>exact .aF ao
 |emp ao cap=>exact .emp ao cap
 |sl b o n cap size es f h1 h2 h3 h4 h5 h6 _ ih=>exact .sl b o n cap size es f h1 h2 h3 h4 (λi j hi hj=>⟨hm _ _ (h5 i j hi hj).1,(hc _ _ (h5 i j hi hj).1).trans (h5 i j hi hj).2⟩) h6 ih
 |agg cs ds h1 h2 _ ih=>exact .agg cs ds h1 h2 ih
theorem V.bI{base:cT}{R R':Nat->Nat->Prop}{w w':World}(hs:Step base R w R' w'){v:Value}{d:D}(h:V R w v d):V R' w' v d:=h.step hs.mono hs.cells
theorem Run.bI{base:cT}{R R':Nat->Nat->Prop}{w w':World}(hs:Step base R w R' w'){b o:Nat}{cs:List D}(h:Run R w b o cs):Run R' w' b o cs:=by intro j d hj;obtain⟨h1,h2,v,h3,h4⟩:=h j d hj;exact⟨h1,hs.mono _ _ h2,v,(hs.cells _ _ h2).trans h3,h4.bI hs⟩
theorem TV.bI{base:cT}{R R':Nat->Nat->Prop}{μ:Nat->Nat}{w w':World}(hs:Step base R w R' w'){v:Value}{d:DV}(h:TV R μ w v d):TV R' μ w' v d:=by
 induction h with
 |d v x h=>exact .d v x (h.bI hs)
 |undef v=>exact .undef v
 |ptr k off=>exact .ptr k off
 |ep b o cs h=>exact .ep b o cs (h.bI hs)
 |mp k=>exact .mp k
 |it k=>exact .it k
 |bY vs ds h1 h2=>exact .bY vs ds h1 λi d hi=>(h2 i d hi).bI hs
 |fn f=>exact .fn f
 |oY b=>exact .oY b
 |yC T=>exact .yC T
 |clo f vs cs h1 _ ih=>exact .clo f vs cs h1 ih
 |ag vs cs h1 h2 h3 _ ih=>exact .ag vs cs h1 h2 h3 ih
theorem rS{key:Nat}:∀ {cs:List DV},mN key cs=false->∀(i:Nat) (c:DV),cs[i]? =some c->mentions key c=false
 |[],_,i,c,h=>by simp at h
 |d::r,hm,i,c,h=>by
  simp only[mN,Bool.or_eq_false_iff]at hm;cases i with
  |zero=>simp at h;subst h;exact hm.1
  |succ i=>exact rS hm.2 i c (by simpa using h)
theorem TV.e0o{R:Nat->Nat->Prop}{μ μ':Nat->Nat}{w:World}{key:Nat}(hμ:∀k,k≠key->μ' k=μ k){v:Value}{d:DV}(h:TV R μ w v d)(hm:mentions key d=false):TV R μ' w v d:=by
 induction h with
 |d v x h=>exact .d v x h
 |undef v=>exact .undef v
 |ptr k off=>
  have:k≠key:=by simpa[mentions]using hm
  rw[<-hμ k this];exact .ptr k off
 |ep b o cs h=>exact .ep b o cs h
 |mp k=>
  have:k≠key:=by simpa[mentions]using hm
  rw[<-hμ k this];exact .mp k
 |it k=>
  have:k≠key:=by simpa[mentions]using hm
  rw[<-hμ k this];exact .it k
 |bY vs ds h1 h2=>exact .bY vs ds h1 h2
 |fn f=>exact .fn f
 |oY b=>exact .oY b
 |yC T=>exact .yC T
 |clo f vs cs h1 h2 ih=>simp only[mentions]at hm;exact .clo f vs cs h1 λi c hi=>ih i c hi (rS hm i c hi)
 |ag vs cs h1 h2 h3 h4 ih=>simp only[mentions]at hm;exact .ag vs cs h1 h2 h3 λi c hi=>ih i c hi (rS hm i c hi)
theorem a6I.bI{G:GT}{base:cT}{R R':Nat->Nat->Prop}{w w':World}(hs:Step base R w R' w')(h:a6I G base R w):a6I G base R' w':=λg cs hg=>by obtain⟨h1,h2,arr,T,fr,h3,h4⟩:=h g cs hg;exact⟨h1.bI hs,h2,arr,T,fr,by rw[hs.below.block g h2];exact h3,h4⟩
theorem a6I.up{G:GT}{base jP:cT}{R:Nat->Nat->Prop}{w:World}(h:a6I G base R w)(hb:∀k,jP k->base k):a6I G jP R w:=λg cs hg=>by obtain⟨h1,h2,h3⟩:=h g cs hg;exact⟨h1,λhx=>h2 (hb g hx),h3⟩
theorem V.a8O{R:Nat->Nat->Prop}{w:World}{v:Value}{d:D}(h:V R w v d)(h1:d.one=true):v.oneCell'=true:=by cases h<;>first|rfl|(simp[D.one]at h1)
theorem V.c8S{R:Nat->Nat->Prop}{w:World}{v:Value}{d:D}(h:V R w v d)(h1:d.one=true):v.cells=#[v]/\d.cells=[d]:=by cases h<;>first|exact⟨rfl,rfl⟩|(simp[D.one]at h1)
theorem V.cells{R:Nat->Nat->Prop}{w:World}{v:Value}{d:D}(h:V R w v d):v.cells.size=d.cells.length/\∀(i:Nat) (c:D),d.cells[i]? =some c->c.one=true/\V R w (v.cells.getD i undef) c:=by
 cases h with
 |agg cs ds h1 h2 h3=>exact⟨h1,λi c hi=>⟨h2 i c hi,h3 i c hi⟩⟩
 |int k n=>exact⟨rfl,λi c hi=>by cases i<;>simp[D.cells]at hi;subst hi;exact⟨rfl,.int k n⟩⟩
 |bool b=>exact⟨rfl,λi c hi=>by cases i<;>simp[D.cells]at hi;subst hi;exact⟨rfl,.bool b⟩⟩
 |str s=>exact⟨rfl,λi c hi=>by cases i<;>simp[D.cells]at hi;subst hi;exact⟨rfl,.str s⟩⟩
 |aF ao=>exact⟨rfl,λi c hi=>by cases i<;>simp[D.cells]at hi;subst hi;exact⟨rfl,.aF ao⟩⟩
 |emp ao cap=>exact⟨rfl,λi c hi=>by cases i<;>simp[D.cells]at hi;subst hi;exact⟨rfl,.emp ao cap⟩⟩
 |sl b o n cap size es f h1 h2 h3 h4 h5 h6 h7=>exact⟨rfl,λi c hi=>by cases i<;>simp[D.cells]at hi;subst hi;exact⟨rfl,.sl b o n cap size es f h1 h2 h3 h4 h5 h6 h7⟩⟩
end Go.VM
namespace Go.VM
open Go Go.RowKit
theorem a3Y(k:Nat)(o:aW):∀H:List (Nat×aW),(getKey k H).isSome=true->getKey k (a0q k o H)=some o
 |[],h=>by simp[getKey]at h
 |(k',o')::r,h=>by
  unfold a0q;split
  .simp[getKey]
  .rename_i hk;simp only[getKey,hk,if_false]at h|-;exact a3Y k o r h
theorem a6Q{k k':Nat}(o:aW)(h:k≠k'):∀H:List (Nat×aW),getKey k' (a0q k o H)=getKey k' H
 |[]=>rfl
 |(k1,o1)::r=>by
  unfold a0q;split
  .rename_i h1;subst h1;simp[getKey,h]
  .simp[getKey,a6Q o h r]
theorem a3Z(k:Nat)(o:aW):∀H:List (Nat×aW),getKey k H=none->getKey k (kZ k o H)=some o
 |[],_=>by simp[kZ,getKey]
 |(k',o')::r,h=>by
  unfold kZ;split
  .simp[getKey]
  .simp only[getKey]at h|-;split at h
   .cases h
   .rename_i hk;rw[if_neg hk];exact a3Z k o r h
theorem xR{k k':Nat}(o:aW)(h:k≠k'):∀H:List (Nat×aW),getKey k' (kZ k o H)=getKey k' H
 |[]=>by simp[kZ,getKey,h]
 |(k1,o1)::r=>by
  unfold kZ;split
  .simp[getKey,h]
  .simp[getKey,xR o h r]
theorem a7A(k:Nat)(o:aW)(H:List (Nat×aW)):getKey k (bP k o H)=some o:=by
 unfold bP;split
 .rename_i h;exact a3Y k o H h
 .rename_i h;exact a3Z k o H (by simpa using h)
theorem jV{k k':Nat}(o:aW)(h:k≠k')(H:List (Nat×aW)):getKey k' (bP k o H)=getKey k' H:=by
 unfold bP;split
 .exact a6Q o h H
 .exact xR o h H
theorem b1p{a b:Nat}(h:a≠b)(o o':aW):∀H:List (Nat×aW),kZ a o (kZ b o' H)=kZ b o' (kZ a o H)
 |[]=>by
  rcases Nat.lt_or_gt_of_ne h with h'|h'
  .simp[kZ,h',Nat.not_lt.2 (Nat.le_of_lt h')]
  .simp[kZ,h',Nat.not_lt.2 (Nat.le_of_lt h')]
 |(k,x)::r=>by
  by_cases h1:a<k<;>by_cases h2:b<k
  .rcases Nat.lt_or_gt_of_ne h with h'|h'
   .simp[kZ,h1,h2,h',Nat.not_lt.2 (Nat.le_of_lt h')]
   .simp[kZ,h1,h2,h',Nat.not_lt.2 (Nat.le_of_lt h')]
  .have: ¬b<a:=by omega
   simp[kZ,h1,h2,this]
  .have: ¬a<b:=by omega
   simp[kZ,h1,h2,this]
  .simp[kZ,h1,h2,b1p h o o' r]
theorem c1P{a b:Nat}(h:a≠b)(o o':aW){H:List (Nat×aW)}(ha:getKey a H=none)(hb:getKey b H=none):bP a o (bP b o' H)=bP b o' (bP a o H):=by
 have e1:bP b o' H=kZ b o' H:=by unfold bP;rw[hb];rfl
 have e2:bP a o H=kZ a o H:=by unfold bP;rw[ha];rfl
 rw[e1,e2];unfold bP;rw[xR o' (Ne.symm h),xR o h,ha,hb];exact b1p h o o' H
theorem eX{k k':Nat}(o:aW)(H:List (Nat×aW)):getKey k' (bP k o H)=if k=k' then some o else getKey k' H:=by
 split
 .rename_i h;subst h;exact a7A _ _ _
 .rename_i h;exact jV o h H
section
variable {P:Program} {G:GT} {base:cT} {R R':Nat->Nat->Prop} {μ:Nat->Nat} {st:St} {a:Act} {w w':World}
theorem eN.lt{b:Nat}{o:aW}(h:eN R μ w b o):b<w.heap.size:=by
 cases o with
 |cells cs=>obtain⟨vs,T,h,_⟩:=h;exact(f7Q.1 h).1
 |map es=>obtain⟨vs,T,h,_⟩:=h;exact(f7Q.1 h).1
 |iter s pos=>exact(f7Q.1 (show w.heap[b]? =_ from h)).1
 |bld T u es=>obtain⟨v0,v1,T',h,_⟩:=h;exact(f7Q.1 h).1
theorem eN.bI(hs:Step base R w R' w'){b:Nat}(hb:w'.heap[b]? =w.heap[b]?){o:aW}(h:eN R μ w b o):eN R' μ w' b o:=by
 cases o with
 |cells cs=>obtain⟨vs,T,h1,h2,h3,h4⟩:=h;exact⟨vs,T,hb.trans h1,h2,λi d hi=>⟨(h3 i d hi).1,(h3 i d hi).2.bI hs⟩,h4⟩
 |map es=>obtain⟨vs,T,h1,h2,h3⟩:=h;exact⟨vs,T,hb.trans h1,h2,λi k v hi=>⟨(h3 i k v hi).1.bI hs,(h3 i k v hi).2.bI hs⟩⟩
 |iter s pos=>exact hb.trans h
 |bld T u es=>obtain⟨v0,v1,T',h1,h2,h3,h4,h5⟩:=h;exact⟨v0,v1,T',hb.trans h1,h2,h3,h4.bI hs,h5⟩
theorem a4a{e:TypeId}{v:Value}(h:pG P base R w e v){g:Nat}(hg:bF v=some g):
  ∃n cap cur,v=.slice (some ⟨g,0,none⟩) n cap/\base g/\w.heap[g]? =some (.cells cur e (0,0))/\n<=cap/\cap<=maxLen/\cur.size=cap*P.cellsOf e/\∀off,n*P.cellsOf e<=off-> ¬R g off:=by
 rcases h with⟨ao,rfl⟩|⟨g',n,cap,cur,rfl,h⟩
 .cases ao<;>simp[bF]at hg
 .by_cases hc:cap=0
  .simp[bF,hc]at hg
  .simp[bF,hc]at hg;subst hg;exact⟨n,cap,cur,rfl,h⟩
theorem pG.a1v{e:TypeId}{v:Value}(h:pG P base R w e v){g:Nat}(hg:bF v=some g):base g:=by obtain⟨n,cap,cur,_,h,_⟩:=a4a h hg;exact h
theorem pG.lt{e:TypeId}{v:Value}(h:pG P base R w e v){g:Nat}(hg:bF v=some g):g<w.heap.size:=by obtain⟨n,cap,cur,_,_,h,_⟩:=a4a h hg;exact(f7Q.1 h).1
theorem pG.wK{e:TypeId}{v:Value}(h:pG P base R w e v)(hb:∀g,base g->g<w.heap.size->w'.heap[g]? =w.heap[g]?)(hr:∀g off,g<w.heap.size->R' g off->R g off):pG P base R' w' e v:=by
 rcases h with h|⟨g,n,cap,cur,h0,h1,h2,h3,h4,h5,h6⟩
 .exact .inl h
 .have hl:=(f7Q.1 h2).1;exact .inr ⟨g,n,cap,cur,h0,h1,(hb g h1 hl).trans h2,h3,h4,h5,λoff ho eM=>h6 off ho (hr g off hl eM)⟩
theorem pG.c7D{e:TypeId}{v:Value}(h:pG P base R w e v)(hb:∀g,bF v=some g->w'.heap[g]? =w.heap[g]?)(hr:∀g off,bF v=some g->R' g off->R g off):pG P base R' w' e v:=by
 rcases h with h|⟨g,n,cap,cur,rfl,h1,h2,h3,h4,h5,h6⟩
 .exact .inl h
 .by_cases hc:cap=0
  .subst hc;have:n=0:=by omega
   subst this;exact .inl ⟨_,rfl⟩
  .have hs:bF (.slice (some ⟨g,0,none⟩) n cap)=some g:=by simp[bF,hc]
   exact .inr ⟨g,n,cap,cur,rfl,h1,(hb g hs).trans h2,h3,h4,h5,λoff ho eM=>h6 off ho (hr g off hs eM)⟩
theorem a6R{l:Loc}{dst:Option Tmp}{v:Value}(h:∀d,dst=some d->l≠ .t d):cB (a.put dst v) w μ l=cB a w μ l:=by
 cases dst with
 |none=>rfl
 |some d=>
  cases l with
  |t i=>have:d≠i:=λe=>h d rfl (by rw[e]);simp[cB,Act.put,Array.getElem?_setIfInBounds_ne this]
  |c k off=>rfl
theorem pV{l:Loc}{own:List (TypeId×List Loc)}{i:Nat}{c:TypeId×List Loc}(h:(cG l own)[i]? =some c):∃c',own[i]? =some c'/\c.1=c'.1/\∀x,x∈c.2↔x∈c'.2/\x≠l:=by simp only[cG,f7R,f7G]at h;obtain⟨c',h1,rfl⟩:=h;exact⟨c',h1,rfl,λx=>by simp⟩
theorem yG{key:Nat}{own:List (TypeId×List Loc)}{i:Nat}{c:TypeId×List Loc}(h:(dropKey key own)[i]? =some c):∃c',own[i]? =some c'/\c.1=c'.1/\∀x,x∈c.2↔x∈c'.2/\x.yE key=false:=by simp only[dropKey,f7R,f7G]at h;obtain⟨c',h1,rfl⟩:=h;exact⟨c',h1,rfl,λx=>by simp⟩
theorem vJ{src dst:Loc}{own:List (TypeId×List Loc)}{i:Nat}{c:TypeId×List Loc}(h:(addAlias src dst own)[i]? =some c):∃c',own[i]? =some c'/\c.1=c'.1/\∀x,x∈c.2->x∈c'.2\/(x=dst/\src∈c'.2):=by
 simp only[addAlias,f7R,f7G]at h;obtain⟨c',h1,h2⟩:=h;refine⟨c',h1,?_⟩;split at h2
 .rename_i hc;subst h2;refine⟨rfl,λx hx=>?_⟩;simp at hx;rcases hx with rfl|hx
  .exact .inr ⟨rfl,by simpa using hc⟩
  .exact .inl hx
 .subst h2;exact⟨rfl,λx hx=>.inl hx⟩
def a4I(P:Program)(base:cT)(R:Nat->Nat->Prop)(μ:Nat->Nat)(st:St)(a:Act)(w:World)(v:Value):OA->Prop
 | .no=>True
 | .al l=>cB a w μ l=some v
 | .fresh e=>pG P base R w e v/\(∀k o,getKey k st.H=some o->bF v≠some (μ k))/\∃vs,a0v P base R μ st a w vs/\∀v'∈vs,a3X v v'/\a3X v' v
theorem a0v.act{a':Act}{w':World}{st':St}{dst:Loc}{v:Value}{act:OA}(hex:∃vs,a0v P base R μ st a w vs)(kJ:st'.own=dU dst act st.own)(a2y:∀k o,getKey k st'.H=some o->∃o',getKey k st.H=some o')(eF:∀c∈st.own,∀l∈c.2,l≠dst->cB a' w' μ l=cB a w μ l)(hd:∀u,cB a' w' μ dst=some u->u=v)(hsl:∀e u,pG P base R w e u->(∀k o,getKey k st.H=some o->bF u≠some (μ k))->pG P base R' w' e u)(yZ:a4I P base R μ st a w v act):∃vs',a0v P base R' μ st' a' w' vs':=by
 have wK:∀(vs:List Value),a0v P base R μ st a w vs->∀(i:Nat) (c:TypeId×List Loc) (u:Value),(cG dst st.own)[i]? =some c->vs[i]? =some u->a3b P base R' μ st' a' w' c u:=λvs h i c u hc hu=>by
  obtain⟨c',yU,he,hm⟩:=pV hc;have ho:=h.one i c' u yU hu;refine⟨λl hl u' hu'=>?_,?_,λk o hk=>?_⟩
  .have:=(hm l).1 hl;exact ho.dI l this.1 u' ((eF c' (f7M yU) l this.1 this.2).symm.trans hu')
  .rw[he];exact hsl c'.1 u ho.own ho.keys
  .obtain⟨o',uI⟩:=a2y k o hk;exact ho.keys k o' uI
 cases act with
 |no=>obtain⟨vs,h⟩:=hex;exact⟨vs,by rw[kJ];simpa[dU,cG]using h.len,λi c u hc hu=>wK vs h i c u (by rw[kJ]at hc;exact hc) hu,h.apart⟩
 |al l=>
  obtain⟨vs,h⟩:=hex;have h1:=h.one;by_cases hld:l=dst
  .subst hld;refine⟨vs,by rw[kJ];simpa[dU]using h.len,λi c u hc hu=>?_,h.apart⟩;rw[kJ]at hc;simp only[dU,if_true]at hc;have ho:=h1 i c u hc hu;refine⟨λl' hl' u' hu'=>?_,hsl c.1 u ho.own ho.keys,λk o hk=>by obtain⟨o',uI⟩:=a2y k o hk;exact ho.keys k o' uI⟩;by_cases e6W:l'=l
   .subst e6W;exact(hd u' hu').trans (ho.dI l' hl' v yZ)
   .exact ho.dI l' hl' u' ((eF c (f7M hc) l' hl' e6W).symm.trans hu')
  .refine⟨vs,by rw[kJ];simpa[dU,hld,addAlias,cG]using h.len,λi c u hc hu=>?_,h.apart⟩;rw[kJ]at hc;simp only[dU,if_neg hld]at hc;obtain⟨c',yU,he,hm⟩:=vJ hc;have ho:=wK vs h i c' u yU hu;refine⟨λl' hl' u' hu'=>?_,by rw[he];exact ho.own,ho.keys⟩;rcases hm l' hl' with hx|⟨rfl,hx⟩
   .exact ho.dI l' hx u' hu'
   .obtain⟨c0,wL,_,hm0⟩:=pV yU;exact(hd u' hu').trans ((h1 i c0 u wL hu).dI l ((hm0 l).1 hx).1 v yZ)
 |fresh e=>
  obtain⟨ha1,ha2,vs,h,f0p⟩:=yZ;refine⟨v::vs,by rw[kJ];simpa[dU,cG]using h.len,λi c u hc hu=>?_,List.pairwise_cons.2 ⟨λv' zS=>(f0p v' zS).1,h.apart⟩⟩;rw[kJ]at hc;cases i with
  |zero=>simp[dU]at hc hu;subst hc hu;exact⟨λl hl u hu=>by simp at hl;subst hl;exact hd u hu,hsl e v ha1 ha2,λk o hk=>by obtain⟨o',uI⟩:=a2y k o hk;exact ha2 k o' uI⟩
  |succ i=>simp[dU]at hc hu;exact wK vs h i c u hc hu
theorem Rel.put{dst:Option Tmp}{v:Value}{dv:DV}{act:OA}(h:Rel P G base R μ st a w)(hv:TV R μ w v dv)(yZ:a4I P base R μ st a w v act):
  Rel P G base R μ (finish st dst dv act) (a.put dst v) w:=by
 cases dst with
 |none=>exact h
 |some d=>
  refine⟨h.defers,by simp[finish,Act.put,h.size],λi u x hu hx=>?_,h.gY,h.inj,λc hc k off hl=>?_,?_,h.tQ,h.pH,h.base,h.pass⟩
  .simp only[finish,Act.put]at hu hx;by_cases hdi:d=i
   .subst hdi;have h1:d<st.tmps.length:=by
     by_cases aE:d<st.tmps.length
     .exact aE
     .have sG:(st.tmps.set d dv)[d]? =none:=List.getElem?_eq_none (by rw[List.length_set];exact Nat.le_of_not_lt aE);rw[sG]at hx;cases hx
    have h2:d<a.tmps.size:=by rw[h.size];exact h1
    simp[h1]at hx;simp[h2]at hu;subst hu hx;exact hv
   .rw[Array.getElem?_setIfInBounds_ne hdi]at hu;rw[List.getElem?_set_ne hdi]at hx;exact h.tmps i u x hu hx
  .simp only[finish]at hc;obtain⟨i,hi⟩:=f7Y hc;cases act with
   |no=>obtain⟨c',yU,_,hm⟩:=pV hi;exact h.dI c' (f7M yU) k off ((hm _).1 hl).1
   |al l=>
    by_cases hld:l=.t d
    .simp only[dU,if_pos hld]at hi;exact h.dI c (f7M hi) k off hl
    .simp only[dU,if_neg hld]at hi;obtain⟨c',yU,_,hm⟩:=vJ hi;rcases hm _ hl with hx|⟨hx,_⟩
     .obtain⟨c0,wL,_,hm0⟩:=pV yU;exact h.dI c0 (f7M wL) k off ((hm0 _).1 hx).1
     .cases hx
   |fresh e=>
    cases i with
    |zero=>simp[dU]at hi;subst hi;simp at hl
    |succ i=>simp[dU]at hi;obtain⟨c',yU,_,hm⟩:=pV hi;exact h.dI c' (f7M yU) k off ((hm _).1 hl).1
  .refine a0v.act (st':=finish st (some d) dv act) h.own rfl (λk o hk=>⟨o,hk⟩) (λc _ l _ hl=>a6R λd' hd'=>by cases hd';exact hl) (λu hu=>?_) (λe u hu _=>hu) yZ;simp only[cB,Act.put]at hu;by_cases aE:d<a.tmps.size
   .simp[aE]at hu;exact hu.symm
   .simp[aE]at hu
theorem a0v.step(h:Rel P G base R μ st a w){vs:List Value}(rK:a0v P base R μ st a w vs)(hb:∀k,k<w.heap.size->w'.heap[k]? =w.heap[k]?)(hold:∀b o,b<w.heap.size->R' b o->R b o):a0v P base R' μ st a w' vs:=by
 obtain⟨hl,h1,yV⟩:=rK;refine⟨hl,λi c v hc hv=>?_,yV⟩;have ho:=h1 i c v hc hv;refine⟨λl hl u hu=>?_,ho.own.wK (λg _ hg=>hb g hg) (λg off hg=>hold g off hg),ho.keys⟩;refine ho.dI l hl u ?_;cases l with
 |t i=>exact hu
 |c k off=>obtain⟨o,hk⟩:=h.dI c (f7M hc) k off hl;obtain⟨_,_,h3⟩:=h.gY k o hk;rw[show cB a w' μ (.c k off)=cB a w μ (.c k off) from World.cell?_of_block (hb _ h3.lt)]at hu;exact hu
theorem a0v.lt{vs:List Value}(rK:a0v P base R μ st a w vs){v:Value}(hv:v∈vs){g:Nat}(hg:bF v=some g):g<w.heap.size:=by
 obtain⟨i,hi⟩:=f7Y hv;have tY:i<st.own.length:=by rw[<-rK.len];exact(f7I.1 hi).1
 exact(rK.one i st.own[i] v (by simp[tY]) hi).own.lt hg
theorem Rel.step(h:Rel P G base R μ st a w)(hs:Step base R w R' w')(hb:∀k,k<w.heap.size->w'.heap[k]? =w.heap[k]?)(hn:∀b o,R' b o-> ¬R b o->w.heap.size<=b)(hr:∀b o,R' b o->b<w'.heap.size):
  Rel P G base R' μ st a w':=by
 have hold:∀b o,b<w.heap.size->R' b o->R b o:=λb o hl eM=>by
  by_cases hx:R b o
  .exact hx
  .have:=hn b o eM hx;omega
 refine⟨h.defers,h.size,λi v d hv hd=>(h.tmps i v d hv hd).bI hs,λk o hk=>?_,h.inj,h.dI,?_,h.tQ.bI hs,hr,λb hb=>h.base b (Nat.le_trans hs.below.size hb),h.pass⟩
 .obtain⟨h1,h2,h3⟩:=h.gY k o hk;exact⟨h1,λoff eM=>h2 off (hold _ _ h3.lt eM),h3.bI hs (hb _ h3.lt)⟩
 .obtain⟨vs,rK⟩:=h.own;exact⟨vs,rK.step h hb hold⟩
theorem TV.kill{v:Value}{d:DV}(key b:Nat)(h:TV R μ w v d):TV R (λk=>if k=key then b else μ k) w v (kV key d):=by
 unfold kV;by_cases hm:mentions key d=true
 .rw[if_pos hm];exact .undef _
 .rw[if_neg hm];exact h.e0o (key:=key) (λk hk=>by simp[hk]) (by simpa using hm)
theorem b9t{key:Nat}{d:DV}(h:d.cell=true):(kV key d).cell=true:=by
 unfold kV;split
 .rfl
 .exact h
theorem eN.kill{b:Nat}{o:aW}(key b':Nat)(h:eN R μ w b o):eN R (λk=>if k=key then b' else μ k) w b (a1t key o):=by
 cases o with
 |cells cs=>
  obtain⟨vs,T,h1,h2,h3,h4⟩:=h;refine⟨vs,T,h1,by simp[h2],λi d hi=>?_,λT' hm=>?_⟩
  .rw[f7R]at hi;obtain⟨d0,hd0,rfl⟩:=f7G.1 hi;exact⟨b9t (h3 i d0 hd0).1,(h3 i d0 hd0).2.kill key b'⟩
  .obtain⟨d0,hd0,he⟩:=List.mem_map.1 hm;unfold kV at he;split at he
   .cases he
   .subst he;exact h4 T' hd0
 |map es=>exact h
 |iter s p=>exact h
 |bld T u es=>exact h
theorem sH(key k:Nat):∀H:List (Nat×aW),getKey k (H.map λp=>(p.1,a1t key p.2))=(getKey k H).map (a1t key)
 |[]=>rfl
 |(k',o)::r=>by
  simp only[List.map_cons,getKey];split
  .rfl
  .exact sH key k r
theorem Step.alloc(R:Nat->Nat->Prop)(w:World)(o:Obj)(hb:∀b,w.heap.size<=b->base b)(hr:∀b o,R b o->b<w.heap.size):Step base R w R (w.alloc o):=
 ⟨(a0w.refl _ _).alloc hb o,λ_ _ h=>h,λ_ _ h h'=>absurd h h',λb off hR=>World.cell?_alloc_lt w o ⟨b,off,none⟩ (hr b off hR)⟩
theorem Rel.newObj(h:Rel P G base R μ st a w)(key:Nat)(f4t:key<100000)(o:aW)(ob:Obj)(hob:eN R (λk=>if k=key then w.heap.size else μ k) (w.alloc ob) w.heap.size o):
  Rel P G base R (λk=>if k=key then w.heap.size else μ k) (eL st key o) a (w.alloc ob)/\Step base R w R (w.alloc ob):=by
 have hs:Step base R w R (w.alloc ob):=Step.alloc R w ob h.base h.pH;have hold:∀k,k<w.heap.size->(w.alloc ob).heap[k]? =w.heap[k]? :=λk hk=>Below.heap_alloc w ob k hk;refine⟨⟨h.defers,by simp[eL,h.size],λi v d hv hd=>?_,λk o' hk=>?_,λk k' o1 o2 h1 h2 he=>?_,λc hc k off hl=>?_,?_,h.tQ.bI hs,λb off hr=>by have:=h.pH b off hr;simp;omega,λb hb=>h.base b (by simp at hb;omega),λk hk=>by rw[if_neg (by omega)];exact h.pass k hk⟩,hs⟩
 .simp only[eL,f7R,f7G]at hd;obtain⟨d0,hd0,rfl⟩:=hd;exact((h.tmps i v d0 hv hd0).bI hs).kill key w.heap.size
 .simp only[eL,eX]at hk;by_cases wM:key=k
  .subst wM;simp at hk;subst hk;simp only[if_true];exact⟨h.base _ (f7X _),λoff hr=>by have:=h.pH _ _ hr;omega,hob⟩
  .rw[if_neg wM,sH]at hk;obtain⟨o0,ho0,rfl⟩:=f7G.1 hk;obtain⟨h1,h2,h3⟩:=h.gY k o0 ho0;simp only[if_neg (Ne.symm wM)];exact⟨h1,h2,(h3.bI hs (hold _ h3.lt)).kill key w.heap.size⟩
 .simp only[eL,eX]at h1 h2;by_cases hk1:key=k
  .by_cases hk2:key=k'
   .exact hk1.symm.trans hk2
   .subst hk1;rw[if_neg hk2,sH]at h2;obtain⟨o0,ho0,_⟩:=f7G.1 h2;obtain⟨_,_,h3⟩:=h.gY k' o0 ho0;have:=h3.lt;simp[Ne.symm hk2]at he;omega
  .rw[if_neg hk1,sH]at h1;obtain⟨o0,ho0,_⟩:=f7G.1 h1;obtain⟨_,_,h3⟩:=h.gY k o0 ho0;have aE:=h3.lt;by_cases hk2:key=k'
   .subst hk2;simp[Ne.symm hk1]at he;omega
   .rw[if_neg hk2,sH]at h2;obtain⟨o3,ho3,_⟩:=f7G.1 h2;simp only[if_neg (Ne.symm hk1),if_neg (Ne.symm hk2)]at he;exact h.inj k k' o0 o3 ho0 ho3 he
 .obtain⟨i,hi⟩:=f7Y hc;simp only[eL]at hi;obtain⟨c',yU,_,hm⟩:=yG hi;have:=(hm _).1 hl;obtain⟨o',uI⟩:=h.dI c' (f7M yU) k off this.1;simp only[eL,eX];split
  .exact⟨_,rfl⟩
  .rw[sH,uI];exact⟨_,rfl⟩
 .obtain⟨vs,hl,h1,yV⟩:=h.own;refine⟨vs,by simpa[eL,dropKey]using hl,λi c v hc hv=>?_,yV⟩;simp only[eL]at hc;obtain⟨c',yU,he,hm⟩:=yG hc;have ho:=h1 i c' v yU hv;refine⟨λl hl u hu=>?_,by rw[he];exact ho.own.wK (λg _ hg=>hold g hg) (λg off _ hr=>hr),λk o' hk=>?_⟩
  .have hx:=(hm l).1 hl;refine ho.dI l hx.1 u ?_;cases l with
   |t i=>exact hu
   |c k off=>
    have wM:k≠key:=by simpa[Loc.yE]using hx.2
    obtain⟨o',uI⟩:=h.dI c' (f7M yU) k off hx.1;obtain⟨_,_,h3⟩:=h.gY k o' uI;simp only[cB,if_neg wM]at hu|-;rw[<-hu];exact(World.cell?_of_block (hold _ h3.lt)).symm
  .simp only[eL,eX]at hk;by_cases wM:key=k
   .subst wM;simp only[if_true];intro hsp;have:=ho.own.lt hsp;omega
   .rw[if_neg wM,sH]at hk;obtain⟨o0,ho0,_⟩:=f7G.1 hk;simp only[if_neg (Ne.symm wM)];exact ho.keys k o0 ho0
end
end Go.VM
namespace Go.VM
open Go Go.RowKit
section
variable {P:Program} {G:GT} {base:cT} {R:Nat->Nat->Prop} {μ:Nat->Nat} {st:St} {a:Act} {w:World}
theorem wV{v:Value}{x:D}(h:yD v=some x):V R w v x/\x.one=true:=by
 unfold yD at h;split at h<;>simp at h<;>subst h
 .exact⟨.int _ _,rfl⟩
 .exact⟨.bool _,rfl⟩
 .rename_i s;have:=V.str (R:=R) (w:=w) s.data.toList;simp only[Array.toArray_toList]at this;exact⟨this,rfl⟩
 .exact⟨.aF _,rfl⟩
theorem a4J:∀ {l:List Value} {ds:List D},wS l=some ds->l.length=ds.length/\∀(i:Nat) (d:D),ds[i]? =some d->V R w (l.getD i undef) d/\d.one=true
 |[],ds,h=>by simp[wS]at h;subst h;simp
 |v::l,ds,h=>by
  unfold wS at h;split at h<;>simp at h;rename_i x ds' h1 h2;subst h;obtain⟨h3,h4⟩:=a4J (l:=l) h2;refine⟨by simp[h3],λi d hi=>?_⟩;cases i with
  |zero=>simp at hi;subst hi;exact wV h1
  |succ i=>simp at hi;simpa using h4 i d hi
theorem b3w(v:Value):TV R μ w v (ofConst v):=by
 unfold ofConst;split
 .rename_i cs;split
  .rename_i ds h;obtain⟨h1,h2⟩:=a4J (R:=R) (w:=w) h;exact .d _ _ (.agg cs ds (by simpa using h1) (λi d hi=>(h2 i d hi).2) λi d hi=>by have:=(h2 i d hi).1;simpa[f7J,List.getD]using this)
  .exact .undef _
 .split
  .rename_i x h;exact .d _ _ (wV h).1
  .exact .undef _
theorem Rel.eval(h:Rel P G base R μ st a w)(x:Operand):TV R μ w (a.eval x) (st.eval G x):=by
 cases x with
 |tmp t=>
  simp only[Act.eval,St.eval];by_cases ht:t<a.tmps.size
  .have h1:a.tmps[t]? =some (a.tmps.getD t undef):=by simp[ht]
   have h2:st.tmps[t]? =some (st.tmps.getD t (.bY [])):=by
    have:t<st.tmps.length:=by rw[<-h.size];exact ht
    simp[this,List.getD]
   exact h.tmps t _ _ h1 h2
  .have h3: ¬t<st.tmps.length:=by rw[<-h.size];exact ht
   have h1:a.tmps.getD t undef=.tuple #[]:=by simp[Array.getD,ht];rfl
   have h2:st.tmps.getD t (.bY [])=.bY []:=by simp[List.getD,List.getElem?_eq_none (Nat.le_of_not_lt h3)]
   rw[h1,h2];exact .bY _ _ rfl (by simp)
 |const v=>exact b3w v
 |global g=>
  simp only[Act.eval,St.eval];split
  .rename_i cs hg;exact .ep g 0 cs (h.tQ g cs hg).1
  .exact .undef _
 |func f=>exact .fn f
theorem TV.a7B{v:Value}{d:D}(h:TV R μ w v (.d d)):V R w v d:=by cases h;assumption
theorem Rel.kK(h:Rel P G base R μ st a w){x:Operand}{d:D}(hx:st.eval G x=.d d):V R w (a.eval x) d:=by have:=h.eval x;rw[hx]at this;exact this.a7B
theorem Rel.sC(h:Rel P G base R μ st a w)(x:Operand):a4I P base R μ st a w (a.eval x) (sC (st.eval G x) (uF x)):=by
 unfold Go.VM.sC;split
 .rename_i es hx;cases x with
  |tmp s=>
   show a.tmps[s]? =some (a.tmps.getD s undef)
   by_cases hs:s<a.tmps.size
   .simp[hs]
   .have h3: ¬s<st.tmps.length:=by rw[<-h.size];exact hs
    simp[St.eval,List.getD,List.getElem?_eq_none (Nat.le_of_not_lt h3)]at hx
  |_=>trivial
 .trivial
def rL(P:Program)(G:GT)(o:Oper)(st:St)(out:Out):Prop:=
 ∀base R μ a w,Rel P G base R μ st a w->∃v w' R' μ',((execOp a.eval o).run P w=.ok (.value v) w'\/((execOp a.eval o).run P w=.ok .skip w'/\v=Go.undef))/\
  Rel P G base R' μ' out.st a w'/\TV R' μ' w' v out.v/\a4I P base R' μ' out.st a w' v out.act/\Step base R w R' w'
theorem bJ{o:Oper}{v':DV}{act:OA}(h:∀base R μ a w,Rel P G base R μ st a w->∃v,(execOp a.eval o).run P w=.ok (.value v) w/\TV R μ w v v'/\a4I P base R μ st a w v act):rL P G o st ⟨v',act,st⟩:=by intro base R μ a w hr;obtain⟨v,h1,h2,h3⟩:=h base R μ a w hr;exact⟨v,w,R,μ,.inl h1,hr,h2,h3,.refl _ _ _⟩
theorem info_of_underlying{t:TypeId}{d:TypeDesc}(h:P.underlying t=some d):∃i,P.info? t=some i/\i.size=P.cellsOf t/\i.bytes=P.bytesOf t:=by
 unfold Program.underlying at h;cases hi:P.info? t with
 |none=>simp[hi]at h
 |some i=>exact⟨i,rfl,by simp[Program.cellsOf,hi],by simp[Program.bytesOf,hi]⟩
theorem run_sizeOf{t:TypeId}{d:TypeDesc}(h:P.underlying t=some d)(w:World):(sizeOf t).run P w=.ok (P.cellsOf t) w:=by obtain⟨i,h1,h2,_⟩:=info_of_underlying h;simp[sizeOf,typeInfo,h1,h2]
theorem uU{t:TypeId}{d:TypeDesc}(h:P.underlying t=some d)(w:World):(isAgg t).run P w=.ok (pE d) w:=by unfold isAgg;simp only[Sem.run_bind,run_underlying h,Result.andThen_ok];cases d<;>rfl
theorem qN(b o j:Nat):(⟨b,o,none⟩:Addr).add j=⟨b,o+j,none⟩:=by unfold Addr.add;split<;>simp_all
def d6V(R:Nat->Nat->Prop)(w:World)(b o:Nat)(cs:List D):Prop:=∀(j:Nat) (d:D),cs[j]? =some d->d.one=true/\∃v,w.cell? ⟨b,o+j,none⟩=some v/\V R w v d
theorem Run.e2t{b o:Nat}{cs:List D}(h:Run R w b o cs):d6V R w b o cs:=λj d hj=>⟨(h j d hj).1,(h j d hj).2.2⟩
theorem Run.drop{b o:Nat}{cs:List D}(h:Run R w b o cs)(n:Nat):Run R w b (o+n) (cs.drop n):=λj d hj=>by
 rw[f8a]at hj;have:=h _ d hj
 rwa[<-Nat.add_assoc]at this
def b0x(R:Nat->Nat->Prop)(μ:Nat->Nat)(w:World)(b o:Nat)(cs:List DV):Prop:=∀(j:Nat) (d:DV),cs[j]? =some d->d.cell=true/\∃v,w.cell? ⟨b,o+j,none⟩=some v/\TV R μ w v d
theorem b0x.drop{b o:Nat}{cs:List DV}(h:b0x R μ w b o cs)(n:Nat):b0x R μ w b (o+n) (cs.drop n):=λj d hj=>by
 rw[f8a]at hj;have:=h _ d hj
 rwa[<-Nat.add_assoc]at this
theorem b0x.a4K{b:Nat}{cs:List DV}(h:eN R μ w b (.cells cs)):b0x R μ w b 0 cs:=λj d hj=>by
 obtain⟨vs,T,hh,jG,qO,_⟩:=h;obtain⟨h1,h2⟩:=qO j d hj;have aE:j<vs.size:=by rw[jG];exact(f7I.1 hj).1
 refine⟨h1,vs.getD j undef,?_,h2⟩;rw[Nat.zero_add,cell_of_row w _ _ vs T (0,0) hh];simp[aE]
theorem c7F:∀ {l:List DV} {ds:List D},wT l=some ds->l=ds.map .d
 |[],ds,h=>by simp[wT]at h;subst h;rfl
 | .d x::l,ds,h=>by
  simp only[wT]at h;split at h
  .rename_i ds' h';simp at h;subst h;rw[c7F h']
   rfl
  .cases h
 | .undef::_,_,h| .ptr _ _::_,_,h| .ep _::_,_,h| .mp _::_,_,h| .it _::_,_,h| .bY _::_,_,h| .fn _::_,_,h| .yC _::_,_,h| .oY::_,_,h| .clo _ _::_,_,h| .ag _::_,_,h=>by simp[wT]at h
theorem b0x.e2t{b o:Nat}{ds:List D}(h:b0x R μ w b o (ds.map .d)):d6V R w b o ds:=λj d hj=>by obtain⟨h1,v,h2,h3⟩:=h j (.d d) (by simp[hj]);exact⟨h1,v,h2,h3.a7B⟩
theorem a4b{t:TypeId}{b o:Nat}{cs:List D}{y:D}(cZ:d6V R w b o cs)(ht:takeD P t cs=some y):
  ∃v,(loadVar t ⟨b,o,none⟩).run P w=.ok v w/\V R w v y/\(∀es,y=.sl es->w.cell? ⟨b,o,none⟩=some v):=by
 unfold takeD at ht;split at ht
 .rename_i d hd;split at ht
  .rename_i b0y;split at ht
   .rename_i hle;simp at ht;subst ht;have hc:∀j,j<P.cellsOf t->∃v,w.cell? ⟨b,o+j,none⟩=some v/\∀d,cs[j]? =some d->d.one=true/\V R w v d:=λj hj=>by
     have aE:j<cs.length:=by omega
     obtain⟨h1,v,h3,h4⟩:=cZ j cs[j] (by simp[aE]);exact⟨v,h3,λd hd=>by simp[aE]at hd;subst hd;exact⟨h1,h4⟩⟩
    have hf:∀j,j<P.cellsOf t->w.cell? ((⟨b,o,none⟩:Addr).add j)=some ((w.cell? ⟨b,o+j,none⟩).getD undef):=λj hj=>by obtain⟨v,hv,_⟩:=hc j hj;rw[qN,hv];rfl
    refine⟨.agg ((List.range (P.cellsOf t)).map λj=>(w.cell? ⟨b,o+j,none⟩).getD undef).toArray,?_,.agg _ _ (by simp;omega) (λi d hi=>?_) (λi d hi=>?_),by simp⟩
    .unfold loadVar;simp only[Sem.run_bind,uU hd,Result.andThen_ok,b0y,if_true,run_sizeOf hd,run_loadCells (P:=P) w _ _ _ hf,Sem.run_pure]
    .rw[List.getElem?_take]at hi;split at hi
     .rename_i aE;obtain⟨v,_,hv⟩:=hc i aE;exact(hv d hi).1
     .cases hi
    .rw[List.getElem?_take]at hi;split at hi
     .rename_i aE;obtain⟨v,hv,hvd⟩:=hc i aE;simp[f7J,aE,hv];exact(hvd d hi).2
     .cases hi
   .cases ht
  .rename_i b0y;have h0:cs[0]? =some y:=by rw[<-List.head?_eq_getElem?];exact ht
   obtain⟨_,v,h3,h4⟩:=cZ 0 y h0;refine⟨v,?_,h4,λ_ _=>by simpa using h3⟩;unfold loadVar;simp only[Nat.add_zero]at h3;simp only[Sem.run_bind,uU hd,Result.andThen_ok,b0y,Bool.false_eq_true,if_false,run_load,h3]
 .cases ht
theorem b1q{cs:List DV}{y:DV}(h:takeA cs=some y):(∃ds,wT cs=some ds/\y=.d (.agg ds))\/(cs.all b7G=true/\y=.ag cs):=by
 unfold takeA at h;split at h
 .rename_i ds hd;cases h;exact .inl ⟨ds,hd,rfl⟩
 .split at h
  .rename_i ha;cases h;exact .inr ⟨ha,rfl⟩
  .cases h
theorem TV.b7G{v:Value}{c:DV}(h:TV R μ w v c)(hs:Go.VM.b7G c=true):v.oneCell'=true:=by
 cases h with
 |d v x h=>exact h.a8O hs
 |undef v=>cases hs
 |ptr k off=>rfl
 |ep b o cs h=>rfl
 |mp k=>rfl
 |it k=>cases hs
 |bY vs ds h1 h2=>cases hs
 |fn f=>rfl
 |oY b=>rfl
 |yC T=>cases hs
 |clo f vs cs h1 h2=>rfl
 |ag vs cs h1 h2 h3 h4=>cases hs
theorem wW{t:TypeId}{b o:Nat}{cs:List DV}{y:DV}(cZ:b0x R μ w b o cs)(ht:b1o P t cs=some y):
  ∃v,(loadVar t ⟨b,o,none⟩).run P w=.ok v w/\TV R μ w v y/\(∀es,y=.d (.sl es)->w.cell? ⟨b,o,none⟩=some v):=by
 unfold b1o at ht;split at ht
 .rename_i d hd;split at ht
  .rename_i b0y;split at ht
   .rename_i hle;rcases b1q ht with⟨ds,hds,rfl⟩|⟨dB,rfl⟩
    .have he:=c7F hds;have hl:ds.length=P.cellsOf t:=by have:=congrArg List.length he;simp at this;omega
     have h0:d6V R w b o ds:=b0x.e2t (μ:=μ) λj x hj=>cZ j x (by
      rw[<-he,List.getElem?_take]at hj;split at hj
      .exact hj
      .cases hj)
     obtain⟨v,h1,h2,h3⟩:=a4b (P:=P) (t:=t) h0 (y:=.agg ds) (by unfold takeD;rw[hd];simp only[b0y,if_true];rw[if_pos (by omega), <- hl,List.take_length]);exact⟨v,h1,.d _ _ h2,λes he=>by cases he⟩
    .have hc:∀j,j<P.cellsOf t->∃v,w.cell? ⟨b,o+j,none⟩=some v/\∀d,(cs.take (P.cellsOf t))[j]? =some d->d.cell=true/\TV R μ w v d/\v.oneCell'=true:=λj hj=>by
      have aE:j<cs.length:=by omega
      obtain⟨h1,v,h3,h4⟩:=cZ j cs[j] (by simp[aE]);refine⟨v,h3,λd hd=>?_⟩;rw[List.getElem?_take,if_pos hj,f7L aE]at hd;cases hd;refine⟨h1,h4,h4.b7G ?_⟩;exact f7K.1 dB _ (f7M (i:=j) (by rw[List.getElem?_take,if_pos hj,f7L aE]))
     have hf:∀j,j<P.cellsOf t->w.cell? ((⟨b,o,none⟩:Addr).add j)=some ((w.cell? ⟨b,o+j,none⟩).getD undef):=λj hj=>by obtain⟨v,hv,_⟩:=hc j hj;rw[qN,hv];rfl
     have hlen:(cs.take (P.cellsOf t)).length=P.cellsOf t:=by simp;omega
     have hat:∀(i:Nat) (d:DV),(cs.take (P.cellsOf t))[i]? =some d->d.cell=true/\TV R μ w ((((List.range (P.cellsOf t)).map λj=>(w.cell? ⟨b,o+j,none⟩).getD undef).toArray).getD i Go.undef) d/\((((List.range (P.cellsOf t)).map λj=>(w.cell? ⟨b,o+j,none⟩).getD undef).toArray).getD i Go.undef).oneCell'=true:=λi d hi=>by
      have aE:i<P.cellsOf t:=by rw[<-hlen];exact(f7I.1 hi).1
      obtain⟨v,hv,hvd⟩:=hc i aE;simp[f7J,aE,hv];exact hvd d hi
     refine⟨.agg ((List.range (P.cellsOf t)).map λj=>(w.cell? ⟨b,o+j,none⟩).getD undef).toArray,?_,.ag _ _ (by simp;omega) (λi hi=>(hat i _ (f7L hi)).2.2) (λi d hi=>(hat i d hi).1) (λi d hi=>(hat i d hi).2.1),by simp⟩;unfold loadVar;simp only[Sem.run_bind,uU hd,Result.andThen_ok,b0y,if_true,run_sizeOf hd,run_loadCells (P:=P) w _ _ _ hf,Sem.run_pure]
   .cases ht
  .rename_i b0y;have h0:cs[0]? =some y:=by rw[<-List.head?_eq_getElem?];exact ht
   obtain⟨_,v,h3,h4⟩:=cZ 0 y h0;refine⟨v,?_,h4,λ_ _=>by simpa using h3⟩;unfold loadVar;simp only[Nat.add_zero]at h3;simp only[Sem.run_bind,uU hd,Result.andThen_ok,b0y,Bool.false_eq_true,if_false,run_load,h3]
 .cases ht
theorem a3a.overwrite{T:TypeId}{cs ys:List DV}(h:a3a T cs)(hy:ys.all b7F=true)(off:Nat):a3a T (Go.VM.overwrite cs off ys):=λT' hm=>by
 unfold Go.VM.overwrite at hm;rw[List.mem_append,List.mem_append]at hm;rcases hm with(hm|hm)|hm
 .exact h T' (List.mem_of_mem_take hm)
 .exact a3a.c1O hy T' hm
 .exact h T' (List.mem_of_mem_drop hm)
theorem b0A{uJ cs:List DV}(hc:Go.VM.uE (.ag uJ)=some cs):uJ.all b7F=true/\cs=uJ:=by
 simp only[Go.VM.uE]at hc;split at hc
 .rename_i h;cases hc;exact⟨h,rfl⟩
 .cases hc
theorem a8P{d:DV}{cs:List DV}(hc:Go.VM.uE d=some cs):cs.all b7F=true:=by
 cases d with
 |d y=>cases hc;exact f7K.2 λc hm=>by obtain⟨y,_,rfl⟩:=List.mem_map.1 hm;rfl
 |ag uJ=>obtain⟨h,rfl⟩:=b0A hc;exact h
 |undef=>cases hc
 |it _=>cases hc
 |bY _=>cases hc
 |yC _=>cases hc
 |ptr _ _=>cases hc;rfl
 |ep _=>cases hc;rfl
 |mp _=>cases hc;rfl
 |fn _=>cases hc;rfl
 |oY=>cases hc;rfl
 |clo _ _=>cases hc;rfl
theorem a6i{v:Value}{d:DV}{cs:List DV}(h:TV R μ w v d)(hc:Go.VM.uE d=some cs):
  v.cells.size=cs.length/\∀(i:Nat) (c:DV),cs[i]? =some c->c.cell=true/\TV R μ w (v.cells.getD i undef) c/\(v.cells.getD i undef).oneCell'=true:=by
 have one:∀(u:Value) (c:DV),u.cells=#[u]->u.oneCell'=true->c.cell=true->TV R μ w u c->u.cells.size=[c].length/\∀(i:Nat) (c':DV),[c][i]? =some c'->c'.cell=true/\TV R μ w (u.cells.getD i undef) c'/\(u.cells.getD i undef).oneCell'=true:=λu c h1 h2 h3 h4=>by
  rw[h1];refine⟨rfl,λi c' hi=>?_⟩;cases i with
  |zero=>simp at hi;subst hi;exact⟨h3,h4,h2⟩
  |succ i=>simp at hi
 cases h with
 |d v x h=>simp only[Go.VM.uE,f7N]at hc;subst hc;obtain⟨h1,h2⟩:=h.cells;refine⟨by simp[h1],λi c hi=>?_⟩;rw[f7R]at hi;obtain⟨y,hy,rfl⟩:=f7G.1 hi;obtain⟨h3,h4⟩:=h2 i y hy;exact⟨h3,.d _ _ h4,h4.a8O h3⟩
 |undef v=>cases hc
 |it k=>cases hc
 |bY vs ds h1 h2=>cases hc
 |ptr k off=>cases hc;exact one _ _ rfl rfl rfl (.ptr k off)
 |ep b o cs h=>cases hc;exact one _ _ rfl rfl rfl (.ep b o cs h)
 |mp k=>cases hc;exact one _ _ rfl rfl rfl (.mp k)
 |fn f=>cases hc;exact one _ _ rfl rfl rfl (.fn f)
 |oY b=>cases hc;exact one _ _ rfl rfl rfl (.oY b)
 |yC T=>cases hc
 |clo f vs cs h1 h2=>cases hc;exact one _ _ rfl rfl rfl (.clo f vs cs h1 h2)
 |ag vs cs h1 h2 h3 h4=>obtain⟨_,rfl⟩:=b0A hc;exact⟨h1,λi c hi=>⟨h3 i c hi,h4 i c hi,h2 i (f7I.1 hi).1⟩⟩
end
end Go.VM
namespace Go.VM
open Go Go.RowKit
section
variable {P:Program} {G:GT} {st:St} {out:Out}
theorem c1Q{o:Oper}{x:Operand}(ho:o.op=.move x\/o.op=.assign x)(h:a2x G x st=some out):rL P G o st out:=by simp only[a2x,f7N]at h;subst h;refine bJ λbase R μ a w hr=>⟨a.eval x,?_,hr.eval x,hr.sC x⟩;rcases ho with ho|ho<;>simp[execOp,ho]
theorem V.vK{R:Nat->Nat->Prop}{w:World}{v:Value}{b:Bool}(h:V R w v (.bool b)):v=.bool b:=by cases h;rfl
theorem V.sW{R:Nat->Nat->Prop}{w:World}{v:Value}{k:IntKind}{n:Int}(h:V R w v (.int k n)):v=.int k n:=by cases h;rfl
theorem V.oP{R:Nat->Nat->Prop}{w:World}{v:Value}{s:List UInt8}(h:V R w v (.str s)):v=.string ⟨s.toArray⟩:=by cases h;rfl
theorem V.jQ{R:Nat->Nat->Prop}{w:World}{v:Value}(h:V R w v .aF):∃ao,v=.slice ao 0 0:=by cases h;exact⟨_,rfl⟩
theorem V.a3c{R:Nat->Nat->Prop}{w:World}{v:Value}{ds:List D}(h:V R w v (.agg ds)):∃cs,v=.agg cs/\cs.size=ds.length/\(∀(i:Nat) (d:D),ds[i]? =some d->d.one=true/\V R w (cs.getD i undef) d):=by cases h;exact⟨_,rfl,by assumption,λi d hi=>⟨by rename_i h _;exact h i d hi,by rename_i h;exact h i d hi⟩⟩
theorem TV.b9u{R:Nat->Nat->Prop}{μ:Nat->Nat}{w:World}{v:Value}{k off:Nat}(h:TV R μ w v (.ptr k off)):v=.pointer (some ⟨μ k,off,none⟩):=by cases h;rfl
theorem TV.b0B{R:Nat->Nat->Prop}{μ:Nat->Nat}{w:World}{v:Value}{cs:List D}(h:TV R μ w v (.ep cs)):∃b o,v=.pointer (some ⟨b,o,none⟩)/\Run R w b o cs:=by cases h;exact⟨_,_,rfl,by assumption⟩
theorem TV.e2u{R:Nat->Nat->Prop}{μ:Nat->Nat}{w:World}{v:Value}{k:Nat}(h:TV R μ w v (.mp k)):v=.map (some (μ k)):=by cases h;rfl
theorem TV.e2v{R:Nat->Nat->Prop}{μ:Nat->Nat}{w:World}{v:Value}{k:Nat}(h:TV R μ w v (.it k)):v=.pointer (some ⟨μ k,0,none⟩):=by cases h;rfl
theorem TV.e2w{R:Nat->Nat->Prop}{μ:Nat->Nat}{w:World}{v:Value}{f:FuncId}(h:TV R μ w v (.fn f)):v=.func (.func f) #[] #[]:=by cases h;rfl
theorem TV.a8Q{R:Nat->Nat->Prop}{μ:Nat->Nat}{w:World}{v:Value}{f:FuncId}{cs:List DV}(h:TV R μ w v (.clo f cs)):∃vs,v=.func (.func f) #[] vs/\vs.size=cs.length/\∀(i:Nat) (c:DV),cs[i]? =some c->TV R μ w (vs.getD i Go.undef) c:=by cases h;exact⟨_,rfl,by assumption,by assumption⟩
theorem TV.d6W{R:Nat->Nat->Prop}{μ:Nat->Nat}{w:World}{v:Value}{ds:List D}(h:TV R μ w v (.bY ds)):∃vs,v=.tuple vs/\vs.size=ds.length/\(∀(i:Nat) (d:D),ds[i]? =some d->V R w (vs.getD i Go.undef) d):=by cases h;exact⟨_,rfl,by assumption,by assumption⟩
section
variable {base:cT} {R:Nat->Nat->Prop} {μ:Nat->Nat} {a:Act} {w:World}
theorem Rel.oT(h:Rel P G base R μ st a w){x:Operand}{d:DV}(hx:st.eval G x=d):TV R μ w (a.eval x) d:=by rw[<-hx];exact h.eval x
theorem Rel.eC(h:Rel P G base R μ st a w){x:Operand}{k off:Nat}(hx:st.eval G x=.ptr k off):a.eval x=.pointer (some ⟨μ k,off,none⟩):=(h.oT hx).b9u
theorem Rel.vL(h:Rel P G base R μ st a w){x:Operand}{k:IntKind}{n:Int}(hx:st.eval G x=.d (.int k n)):a.eval x=.int k n:=(h.kK hx).sW
theorem Rel.a0y(h:Rel P G base R μ st a w){x:Operand}{b:Bool}(hx:st.eval G x=.d (.bool b)):a.eval x=.bool b:=(h.kK hx).vK
theorem Rel.c7G(h:Rel P G base R μ st a w){x:Operand}(hx:st.eval G x=.oY):∃b,a.eval x=.bool b:=by
 have:=h.oT hx;generalize a.eval x=v at this;cases this with
 |oY b=>exact⟨b,rfl⟩
theorem Rel.a8R(h:Rel P G base R μ st a w){x:Operand}{s:List UInt8}(hx:st.eval G x=.d (.str s)):a.eval x=.string ⟨s.toArray⟩:=(h.kK hx).oP
theorem Rel.a7C(h:Rel P G base R μ st a w){x:Operand}{k:Nat}(hx:st.eval G x=.mp k):a.eval x=.map (some (μ k)):=(h.oT hx).e2u
theorem Rel.d1B(h:Rel P G base R μ st a w){x:Operand}{k:Nat}(hx:st.eval G x=.it k):a.eval x=.pointer (some ⟨μ k,0,none⟩):=(h.oT hx).e2v
theorem Rel.b3x(h:Rel P G base R μ st a w){x:Operand}{f:FuncId}(hx:st.eval G x=.fn f):a.eval x=.func (.func f) #[] #[]:=(h.oT hx).e2w
end
theorem d1C{o:Oper}{c x y:Operand}(ho:o.op=.pick c x y)(h:b3s G c x y st=some out):rL P G o st out:=by
 unfold b3s at h;split at h<;>simp at h;rename_i t hc;subst h;refine bJ λbase R μ a w hr=>⟨if t then a.eval x else a.eval y,?_,?_,trivial⟩
 .simp[execOp,ho,hr.a0y hc,asBool]
 .cases t
  .exact hr.eval y
  .exact hr.eval x
theorem d1D{o:Oper}{t:TypeId}{x:Operand}(ho:o.op=.load t x)(h:b3t P G t x st=some out):rL P G o st out:=by
 unfold b3t at h;split at h
 .rename_i k off hx;split at h
  .rename_i cs hk;simp only[f7G]at h;obtain⟨y,hy,rfl⟩:=h;refine bJ λbase R μ a w hr=>?_;obtain⟨_,_,hob⟩:=hr.gY k _ hk;have cZ:=(b0x.a4K hob).drop off;rw[Nat.zero_add]at cZ;obtain⟨v,h1,h2,h3⟩:=wW (P:=P) cZ hy;refine⟨v,?_,h2,?_⟩
   .simp[execOp,ho,hr.eC hx,Instr.loadAt,Instr.sureAddr,h1]
   .unfold sC;split
    .rename_i es;exact h3 es rfl
    .trivial
  .cases h
 .rename_i cs hx;simp only[f7G]at h;obtain⟨y,hy,rfl⟩:=h;refine bJ λbase R μ a w hr=>?_;obtain⟨b,off,he,cZ⟩:=(hr.oT hx).b0B;obtain⟨v,h1,h2,h3⟩:=a4b (P:=P) cZ.e2t hy;exact⟨v,by simp[execOp,ho,he,Instr.loadAt,Instr.sureAddr,h1],.d _ _ h2,trivial⟩
 .cases h
theorem b9v{o:Oper}{x:Operand}(ho:o.op=.nilCheck x)(h:uT G x st=some out):rL P G o st out:=by
 unfold uT at h;split at h<;>simp at h<;>subst h
 .rename_i k off hx;exact bJ λbase R μ a w hr=>⟨a.eval x,by simp[execOp,ho,hr.eC hx],hr.oT hx,trivial⟩
 .rename_i cs hx;refine bJ λbase R μ a w hr=>⟨a.eval x,?_,hr.oT hx,trivial⟩;obtain⟨b,off,he,cZ⟩:=(hr.oT hx).b0B;simp[execOp,ho,he]
 .rename_i f hx;exact bJ λbase R μ a w hr=>⟨a.eval x,by simp[execOp,ho,hr.b3x hx],hr.oT hx,trivial⟩
 .rename_i f cs hx;refine bJ λbase R μ a w hr=>⟨a.eval x,?_,hr.oT hx,trivial⟩;obtain⟨vs,he,_⟩:=(hr.oT hx).a8Q;simp[execOp,ho,he]
theorem e2x{o:Oper}{op:UnOp}{t:TypeId}{x:Operand}(ho:o.op=.unOp op t x)(h:vUn G op x st=some out):rL P G o st out:=by
 unfold vUn at h;split at h
 .rename_i y hx;simp only[f7G]at h;obtain⟨c,hc,rfl⟩:=h;unfold c5t at hc;split at hc<;>simp only[f7N,reduceCtorEq]at hc<;>subst hc
  .rename_i k n;exact bJ λbase R μ a w hr=>⟨.int k (k.wrap (0-n)),by simp[execOp,ho,hr.vL hx,Op.unary,Op.intArith],.d _ _ (.int _ _),trivial⟩
  .rename_i b;exact bJ λbase R μ a w hr=>⟨.bool !b,by simp[execOp,ho,hr.a0y hx,Op.unary],.d _ _ (.bool _),trivial⟩
 .cases h
theorem c1R{o:Oper}{x:Operand}{i:Nat}(ho:o.op=.extract x i)(h:a0u G x i st=some out):rL P G o st out:=by
 unfold a0u at h;split at h
 .rename_i ds hx;simp only[f7G]at h;obtain⟨y,hy,rfl⟩:=h;refine bJ λbase R μ a w hr=>?_;obtain⟨vs,he,jG,hv⟩:=(hr.oT hx).d6W;have aE:i<vs.size:=by rw[jG];exact(f7I.1 hy).1
  exact⟨vs.getD i undef,by simp[execOp,ho,he,Instr.extract,aE],.d _ _ (hv i y hy),trivial⟩
 .cases h
theorem vM{t:TypeId}{i off:Nat}{u:TypeId}(h:aG P t i=some (off,u)):∃fs f,P.underlying t=some (.struct fs)/\fs[i]? =some f/\f.offset=off/\f.type=u:=by
 unfold aG at h;split at h
 .rename_i fs hfs;simp only[f7G]at h;obtain⟨f,hf,he⟩:=h;simp at he;exact⟨fs,f,hfs,hf,he.1,he.2⟩
 .cases h
theorem c1S{R:Nat->Nat->Prop}{w:World}{u:TypeId}{cs:Array Value}{ds:List D}{off:Nat}{y:D}(jG:cs.size=ds.length)(hv:∀(i:Nat) (d:D),ds[i]? =some d->d.one=true/\V R w (cs.getD i undef) d)(ht:takeD P u (ds.drop off)=some y):∃v,(part u cs off).run P w=.ok v w/\V R w v y:=by
 unfold takeD at ht;split at ht
 .rename_i d hd;split at ht
  .rename_i b0y;split at ht
   .rename_i hle;simp at ht;subst ht;rw[List.length_drop]at hle;by_cases h0:P.cellsOf u=0
    .refine⟨.agg (cs.extract off (off+P.cellsOf u)),?_,?_⟩
     .unfold part;simp only[Sem.run_bind,uU hd,Result.andThen_ok,b0y,if_true,run_sizeOf hd,Sem.run_pure]
     .rw[h0];exact .agg _ _ (by simp;omega) (by simp) (by simp)
    .refine⟨.agg (cs.extract off (off+P.cellsOf u)),?_,.agg _ _ (by simp;omega) (λi d hi=>?_) (λi d hi=>?_)⟩
     .unfold part;simp only[Sem.run_bind,uU hd,Result.andThen_ok,b0y,if_true,run_sizeOf hd,Sem.run_pure]
     .rw[List.getElem?_take]at hi;split at hi
      .rw[f8a]at hi;exact(hv _ d hi).1
      .cases hi
     .rw[List.getElem?_take]at hi;split at hi
      .rename_i aE;rw[f8a]at hi;have:=(hv _ d hi).2;have a4r:off+i<cs.size:=by rw[jG];exact(f7I.1 hi).1
       have hge:(cs.extract off (off+P.cellsOf u)).getD i undef=cs.getD (off+i) undef:=by
        simp[f7J,Array.getElem?_extract,a4r];rw[if_pos (by omega)]
        rfl
       rw[hge];exact this
      .cases hi
   .cases ht
  .rename_i b0y;have h0:ds[off]? =some y:=by rw[List.head?_eq_getElem?,f8a]at ht;simpa using ht
   have aE:off<cs.size:=by rw[jG];exact(f7I.1 h0).1
   refine⟨cs.getD off undef,?_,(hv off y h0).2⟩;unfold part;simp only[Sem.run_bind,uU hd,Result.andThen_ok,b0y,Bool.false_eq_true,if_false];simp[aE]
 .cases ht
theorem c8T{o:Oper}{t:TypeId}{x:Operand}{i:Nat}(ho:o.op=.field t x i)(h:a7x P G t x i st=some out):rL P G o st out:=by
 unfold a7x at h;split at h
 .rename_i cs off u hx hf;simp only[f7G]at h;obtain⟨y,hy,rfl⟩:=h;obtain⟨fs,f,h1,h2,rfl,rfl⟩:=vM hf;refine bJ λbase R μ a w hr=>?_;obtain⟨vs,he,jG,hv⟩:=(hr.kK hx).a3c;obtain⟨v,hp,hvy⟩:=c1S (P:=P) jG hv hy;exact⟨v,by simp[execOp,ho,he,Instr.field,run_underlying h1,h2,asAgg,hp],.d _ _ hvy,trivial⟩
 .cases h
theorem b3y{n:D}{m j:Nat}(h:idx n m=some j):∃k i,n=.int k i/\0<=i/\i<m/\j=i.toNat/\j<m:=by
 unfold idx at h;split at h
 .rename_i k i;split at h
  .rename_i hi;simp at h;exact⟨k,i,rfl,hi.1,hi.2,h.symm,by omega⟩
  .cases h
 .cases h
theorem c8U{o:Oper}{t:TypeId}{x i:Operand}(ho:o.op=.index t x i)(h:a7y P G t x i st=some out):rL P G o st out:=by
 unfold a7y at h;split at h
 .rename_i s n hu hx hi;simp only[f7V,f7G]at h;obtain⟨j,hj,b,hb,rfl⟩:=h;obtain⟨k,m,rfl,h0,h1,rfl,_⟩:=b3y hj;refine bJ λbase R μ a w hr=>⟨.int .u8 b.toNat,?_,.d _ _ (.int _ _),trivial⟩;have hg:(⟨s.toArray⟩:ByteArray)[m.toNat]? =some b:=by
   have hl:m.toNat<s.length:=by omega
   have:(⟨s.toArray⟩:ByteArray)[m.toNat]? =s[m.toNat]? :=by simp only[getElem?_def,ByteArray.size,ByteArray.getElem_eq_getElem_data];simp
   rw[this];exact hb
  simp[execOp,ho,hr.a8R hx,hr.vL hi,Instr.index,run_underlying hu,asIntOf,h0,hg]
 .rename_i len e cs n hu hx hi;simp only[f7V,f7G]at h;obtain⟨j,hj,y,hy,rfl⟩:=h;obtain⟨k,m,rfl,h0,h1,rfl,_⟩:=b3y hj;refine bJ λbase R μ a w hr=>?_;obtain⟨vs,he,jG,hv⟩:=(hr.kK hx).a3c;obtain⟨v,hp,hvy⟩:=c1S (P:=P) jG hv hy;refine⟨v,?_,.d _ _ hvy,trivial⟩;have hd:∃d,P.underlying e=some d:=by
   unfold takeD at hy;split at hy
   .rename_i d hd;exact⟨d,hd⟩
   .cases hy
  obtain⟨d,hd⟩:=hd;simp[execOp,ho,he,hr.vL hi,Instr.index,run_underlying hu,asIntOf,h0,h1,run_sizeOf hd,hp]
 .cases h
end
end Go.VM
namespace Go.VM
open Go Go.RowKit
section
variable {P:Program} {G:GT} {st:St} {out:Out}
variable {base:cT} {R:Nat->Nat->Prop} {μ:Nat->Nat} {a:Act} {w:World}
theorem c7H(x y:List UInt8):((⟨x.toArray⟩:ByteArray)==⟨y.toArray⟩)=(x==y):=by rw[beq_toListBytes,ByteArray.toList_mk,ByteArray.toList_mk]
theorem d1E{op:BinOp}{t:TypeId}{x y:Operand}{p q c:D}{u v:Value}(hu:V R w u p)(hv:V R w v q)(h:d6S op p q=some c):
  ∃r,(do eqGuard op t x y u v;binOp op t u v:Sem Value).run P w=.ok r w/\V R w r c:=by
 unfold d6S at h;split at h
 .rename_i k m k' n;obtain rfl:=hu.sW;obtain rfl:=hv.sW;split at h
  .cases h
  .rename_i hk;simp only[ne_eq,Decidable.not_not]at hk;subst hk;have hg:∀o,(eqGuard o t x y (.int k m) (.int k n)).run P w=.ok () w:=λo=>by cases o<;>simp[eqGuard]
   cases op<;>simp only[f7N,reduceCtorEq]at h
   case quo=>
    split at h
    .cases h
    .rename_i hz;simp only[f7N]at h;subst h;exact⟨_,by simp only[Sem.run_bind,hg,Result.andThen_ok];simp[binOp,Op.intDiv,hz],.int _ _⟩
   case rem=>
    split at h
    .cases h
    .rename_i hz;simp only[f7N]at h;subst h;exact⟨_,by simp only[Sem.run_bind,hg,Result.andThen_ok];simp[binOp,Op.intDiv,hz],.int _ _⟩
   all_goals subst h
   case add=>exact⟨_,by simp only[Sem.run_bind,hg,Result.andThen_ok];simp[binOp,Op.intArith],.int _ _⟩
   case sub=>exact⟨_,by simp only[Sem.run_bind,hg,Result.andThen_ok];simp[binOp,Op.intArith],.int _ _⟩
   case mul=>exact⟨_,by simp only[Sem.run_bind,hg,Result.andThen_ok];simp[binOp,Op.intArith],.int _ _⟩
   all_goals exact⟨_,by simp only[Sem.run_bind,hg,Result.andThen_ok];simp only[binOp,ne_eq,not_true_eq_false,if_false,Op.intCmp,Sem.run_pure],.bool _⟩
 .rename_i m n;obtain rfl:=hu.oP;obtain rfl:=hv.oP;have hg:∀o,(eqGuard o t x y (.string ⟨m.toArray⟩) (.string ⟨n.toArray⟩)).run P w=.ok () w:=λo=>by cases o<;>simp[eqGuard]
  cases op<;>simp only[f7N,reduceCtorEq]at h
  case add=>
   split at h
   .rename_i hle;simp only[f7N]at h;subst h;refine⟨.string ⟨(m++n).toArray⟩,?_,.str _⟩;have hb:(⟨m.toArray⟩:ByteArray)++⟨n.toArray⟩=⟨(m++n).toArray⟩:=by apply ByteArray.ext;simp[ByteArray.data_append]
    have hs: ¬(((⟨m.toArray⟩:ByteArray).size+(⟨n.toArray⟩:ByteArray).size:Nat):Int)>IntKind.i64.max:=by
     show ¬((m.toArray.size+n.toArray.size:Nat):Int)>9223372036854775807
     simp only[List.size_toArray];omega
    simp only[Sem.run_bind,hg,Result.andThen_ok];simp only[binOp,Op.stringOp,if_neg hs,Sem.run_pure,hb]
   .cases h
  all_goals subst h
  all_goals exact⟨_,by simp only[Sem.run_bind,hg,Result.andThen_ok];simp only[binOp,Op.stringOp,Sem.run_pure,ByteArray.toList_mk],.bool _⟩
 .cases h
theorem c8V{d:TypeDesc}{t:TypeId}{p q:D}{u v:Value}{r:Bool}(n:Nat)(ht:P.underlying t=some d)(hd:pZ d=true)(hu:V R w u p)(hv:V R w v q)(h:a0r p q=some r)(hk:sV P t p=true):(Op.equalIn (n+1) t u v).run P w=.ok r w:=by
 unfold a0r at h;split at h
 .rename_i k m k' n';obtain rfl:=hu.sW;obtain rfl:=hv.sW;split at h<;>simp at h;rename_i wM;subst wM h;unfold sV at hk;rw[ht]at hk;cases d<;>simp[rR]at hk;exact run_equalIn_int w n t k _ m n' ht
 .obtain rfl:=hu.oP;obtain rfl:=hv.oP;simp at h;subst h;unfold sV at hk;rw[ht]at hk;cases d<;>simp[rR]at hk;rw[run_equalIn_string w n t _ _ ht,ByteArray.toList_mk,ByteArray.toList_mk]
 .obtain rfl:=hu.vK;obtain rfl:=hv.vK;simp at h;subst h;unfold sV at hk;rw[ht]at hk;cases d<;>simp[rR]at hk;exact run_equalIn_bool w n t _ _ ht
 .cases h
theorem tZ{t:TypeId}(h:(P.info? t).isSome=true)(w:World):(sizeOf t).run P w=.ok (P.cellsOf t) w:=by
 cases hi:P.info? t with
 |none=>simp[hi]at h
 |some i=>simp[sizeOf,typeInfo,hi,Program.cellsOf]
theorem zA(w:World):∀(fs:List Field),(∀f∈fs,(P.info? f.type).isSome=true)->
  (fs.mapM (λf=>do pure (f.offset, <- sizeOf f.type)):Sem (List (Nat×Nat))).run P w=.ok (fs.map λf=>(f.offset,P.cellsOf f.type)) w
 |[],_=>by simp
 |f::fs,h=>by have h1:=tZ (h f (by simp)) w;have h2:=zA w fs (λf hf=>h f (by simp[hf]));simp only[List.mapM_cons,Sem.run_bind,h1,Result.andThen_ok,Sem.run_pure,h2,List.map_cons]
theorem b3z{t:TypeId}{z:List D}(h:jH P t=some z)(w:World):∃v,(zeroValue t).run P w=.ok v w/\v.cells.size=z.length/\(∀(i:Nat) (d:D),z[i]? =some d->d.one=true/\V R w (v.cells.getD i undef) d):=by
 unfold jH at h;cases hi:P.info? t with
 |none=>simp[hi]at h
 |some i=>
  cases hz:i.zero with
  |none=>simp[hi,hz]at h
  |some v=>simp[hi,hz]at h;obtain⟨h1,h2⟩:=a4J (R:=R) (w:=w) h;refine⟨v,by simp[zeroValue,typeInfo,hi,hz],by simpa using h1,λj d hj=>⟨(h2 j d hj).2,?_⟩⟩;have:=(h2 j d hj).1;simpa[f7J,List.getD]using this
theorem xS(off:Nat):∀(l:List Value) (k:Nat) (cs:Array Value) (i:Nat),((l.zipIdx k).foldl (λcs (x:Value×Nat)=>cs.setIfInBounds (off+x.2) x.1) cs)[i]? =
  if off+k<=i/\i<off+k+l.length/\i<cs.size then l[i-(off+k)]? else cs[i]?
 |[],k,cs,i=>by simp;omega
 |v::l,k,cs,i=>by
  simp only[List.zipIdx_cons,List.foldl_cons];rw[xS off l (k+1) _ i];simp only[Array.size_setIfInBounds,List.length_cons];by_cases h1:i=off+k
  .subst h1;rw[if_neg (by omega)];by_cases h2:off+k<cs.size
   .rw[if_pos ⟨by omega,by omega,h2⟩];simp[h2]
   .rw[if_neg (by omega)];simp[h2]
  .rw[Array.getElem?_setIfInBounds_ne (by omega)];by_cases h2:off+(k+1)<=i/\i<off+(k+1)+l.length/\i<cs.size
   .rw[if_pos h2,if_pos ⟨by omega,by omega,h2.2.2⟩];have:i-(off+k)=(i-(off+(k+1)))+1:=by omega
    rw[this];simp
   .rw[if_neg h2,if_neg (by omega)]
theorem fold_size(off:Nat):∀(l:List (Value×Nat)) (cs:Array Value),(l.foldl (λcs (x:Value×Nat)=>cs.setIfInBounds (off+x.2) x.1) cs).size=cs.size
 |[],cs=>rfl
 |_::l,cs=>by simp only[List.foldl_cons];rw[fold_size off l];simp
theorem c7I{t:TypeId}{fs:Array Field}(ht:P.underlying t=some (.struct fs)){pl:Nat->Option (Nat×Nat)}(hpl:∀i,pl i=(fs[i]?).map λf=>(f.offset,P.cellsOf f.type)):
  ∀(ps:List (Nat×Value)) (qs:List (Nat×D)) (cs:Array Value) (z r:List D),ps.length=qs.length->(∀(i:Nat) (p:Nat×Value) (q:Nat×D),ps[i]? =some p->qs[i]? =some q->p.1=q.1/\V R w p.2 q.2)->
   cs.size=z.length->(∀(i:Nat) (d:D),z[i]? =some d->d.one=true/\V R w (cs.getD i undef) d)->b7E P t z qs=some r->
   ∃uJ,Instr.fill pl cs ps=some uJ/\uJ.size=r.length/\(∀(i:Nat) (d:D),r[i]? =some d->d.one=true/\V R w (uJ.getD i undef) d)
 |[],[],cs,z,r,_,_,jG,hz,h=>by simp[b7E]at h;subst h;exact⟨cs,rfl,jG,hz⟩
 |[],_::_,_,_,_,hl,_,_,_,_=>by simp at hl
 |_::_,[],_,_,_,hl,_,_,_,_=>by simp at hl
 |(i,v)::ps,(j,d)::qs,cs,z,r,hl,hp,jG,hz,h=>by
  obtain⟨hij,hvd⟩:=hp 0 _ _ rfl rfl
  change i=j at hij
  subst hij
  change V R w v d at hvd
  simp only[b7E]at h;cases hf:aG P t i with
  |none=>simp[hf]at h
  |some p=>
   obtain⟨off,u⟩:=p;obtain⟨fs',f,h1,h2,rfl,rfl⟩:=vM hf;rw[ht]at h1;cases h1;simp only[hf]at h;split at h
   .rename_i hc;obtain⟨qO,hcv⟩:=hvd.cells;have c1T:Instr.fill pl cs ((i,v)::ps)=Instr.fill pl (v.cells.zipIdx.foldl (λcs (c,j)=>cs.setIfInBounds (f.offset+j) c) cs) ps:=by
     have:(decide (v.cells.size≠P.cellsOf f.type)||decide (f.offset+v.cells.size>cs.size))=false:=by rw[qO,jG];simp;omega
     simp only[Instr.fill,hpl,h2,Option.map_some,this,Bool.false_eq_true,if_false]
    rw[c1T];have d1F:(v.cells.zipIdx.foldl (λcs (c,j)=>cs.setIfInBounds (f.offset+j) c) cs)=(v.cells.toList.zipIdx 0).foldl (λcs (x:Value×Nat)=>cs.setIfInBounds (f.offset+x.2) x.1) cs:=by rw[<-Array.foldl_toList,Array.toList_zipIdx]
    rw[d1F];refine c7I ht hpl ps qs _ (overwrite z f.offset d.cells) r (by simpa using hl) (λk p q hp' hq'=>hp (k+1) p q (by simpa using hp') (by simpa using hq')) ?_ ?_ h
    .rw[fold_size,jG];simp only[overwrite,List.length_append,List.length_take,List.length_drop];omega
    .intro k c hk;rw[f7J,xS];simp only[Nat.add_zero,Array.length_toList];simp only[overwrite]at hk;by_cases rT:k<f.offset
     .rw[List.append_assoc,f7S (by simp;omega),List.getElem?_take,if_pos rT]at hk;rw[if_neg (by omega)];have:=hz k c hk
      rwa[f7J]at this
     .by_cases hhi:k<f.offset+d.cells.length
      .rw[List.append_assoc,f7P (by simp;omega),f7S (by simp;omega)]at hk;have a3d:min f.offset z.length=f.offset:=by omega
       simp only[List.length_take,a3d]at hk;rw[if_pos (by rw[qO,jG];omega)];have:=hcv _ c hk;simpa[f7J]using this
      .rw[f7P (by simp;omega)]at hk;simp only[List.length_append,List.length_take,f8a]at hk;have a3d:min f.offset z.length=f.offset:=by omega
       rw[a3d,show f.offset+d.cells.length+(k-(f.offset+d.cells.length))=k by omega]at hk;rw[if_neg (by rw[qO];omega)];have:=hz k c hk
       rwa[f7J]at this
   .cases h
def c5y(R:Nat->Nat->Prop)(μ:Nat->Nat)(w:World)(v:Value)(cs:List DV):Prop:=v.cells.size=cs.length/\∀(i:Nat) (c:DV),cs[i]? =some c->c.cell=true/\TV R μ w (v.cells.getD i undef) c/\(v.cells.getD i undef).oneCell'=true
theorem c1U{t:TypeId}{fs:Array Field}(ht:P.underlying t=some (.struct fs)){pl:Nat->Option (Nat×Nat)}(hpl:∀i,pl i=(fs[i]?).map λf=>(f.offset,P.cellsOf f.type)):
  ∀(ps:List (Nat×Value)) (qs:List (Nat×List DV)) (cs:Array Value) (z r:List DV),ps.length=qs.length->(∀(i:Nat) (p:Nat×Value) (q:Nat×List DV),ps[i]? =some p->qs[i]? =some q->p.1=q.1/\c5y R μ w p.2 q.2)->
   cs.size=z.length->(∀(i:Nat) (d:DV),z[i]? =some d->d.cell=true/\TV R μ w (cs.getD i undef) d/\(cs.getD i undef).oneCell'=true)->a8M P t z qs=some r->
   ∃uJ,Instr.fill pl cs ps=some uJ/\uJ.size=r.length/\(∀(i:Nat) (d:DV),r[i]? =some d->d.cell=true/\TV R μ w (uJ.getD i undef) d/\(uJ.getD i undef).oneCell'=true)
 |[],[],cs,z,r,_,_,jG,hz,h=>by simp[a8M]at h;subst h;exact⟨cs,rfl,jG,hz⟩
 |[],_::_,_,_,_,hl,_,_,_,_=>by simp at hl
 |_::_,[],_,_,_,hl,_,_,_,_=>by simp at hl
 |(i,v)::ps,(j,d)::qs,cs,z,r,hl,hp,jG,hz,h=>by
  obtain⟨hij,hvd⟩:=hp 0 _ _ rfl rfl
  change i=j at hij
  subst hij
  change c5y R μ w v d at hvd
  simp only[a8M]at h;cases hf:aG P t i with
  |none=>simp[hf]at h
  |some p=>
   obtain⟨off,u⟩:=p;obtain⟨fs',f,h1,h2,rfl,rfl⟩:=vM hf;rw[ht]at h1;cases h1;simp only[hf]at h;split at h
   .rename_i hc;obtain⟨qO,hcv⟩:=hvd;have c1T:Instr.fill pl cs ((i,v)::ps)=Instr.fill pl (v.cells.zipIdx.foldl (λcs (c,j)=>cs.setIfInBounds (f.offset+j) c) cs) ps:=by
     have:(decide (v.cells.size≠P.cellsOf f.type)||decide (f.offset+v.cells.size>cs.size))=false:=by rw[qO,jG];simp;omega
     simp only[Instr.fill,hpl,h2,Option.map_some,this,Bool.false_eq_true,if_false]
    rw[c1T];have d1F:(v.cells.zipIdx.foldl (λcs (c,j)=>cs.setIfInBounds (f.offset+j) c) cs)=(v.cells.toList.zipIdx 0).foldl (λcs (x:Value×Nat)=>cs.setIfInBounds (f.offset+x.2) x.1) cs:=by rw[<-Array.foldl_toList,Array.toList_zipIdx]
    rw[d1F];refine c1U ht hpl ps qs _ (overwrite z f.offset d) r (by simpa using hl) (λk p q hp' hq'=>hp (k+1) p q (by simpa using hp') (by simpa using hq')) ?_ ?_ h
    .rw[fold_size,jG];simp only[overwrite,List.length_append,List.length_take,List.length_drop];omega
    .intro k c hk;rw[f7J,xS];simp only[Nat.add_zero,Array.length_toList];simp only[overwrite]at hk;by_cases rT:k<f.offset
     .rw[List.append_assoc,f7S (by simp;omega),List.getElem?_take,if_pos rT]at hk;rw[if_neg (by omega)];have:=hz k c hk
      rwa[f7J]at this
     .by_cases hhi:k<f.offset+d.length
      .rw[List.append_assoc,f7P (by simp;omega),f7S (by simp;omega)]at hk;have a3d:min f.offset z.length=f.offset:=by omega
       simp only[List.length_take,a3d]at hk;rw[if_pos (by rw[qO,jG];omega)];have:=hcv _ c hk;simpa[f7J]using this
      .rw[f7P (by simp;omega)]at hk;simp only[List.length_append,List.length_take,f8a]at hk;have a3d:min f.offset z.length=f.offset:=by omega
       rw[a3d,show f.offset+d.length+(k-(f.offset+d.length))=k by omega]at hk;rw[if_neg (by rw[qO];omega)];have:=hz k c hk
       rwa[f7J]at this
   .cases h
theorem a4L(hr:Rel P G base R μ st a w):∀ {l:List (Nat×Operand)} {qs:List (Nat×D)},a2b G st l=some qs->
  l.length=qs.length/\∀(i:Nat) (p:Nat×Value) (q:Nat×D),(l.map λx=>(x.1,a.eval x.2))[i]? =some p->qs[i]? =some q->p.1=q.1/\V R w p.2 q.2
 |[],qs,h=>by simp[a2b]at h;subst h;simp
 |(j,x)::l,qs,h=>by
  simp only[a2b]at h;split at h
  .rename_i y ds hy hds;simp at h;subst h;obtain⟨h1,h2⟩:=a4L hr hds;refine⟨by simp[h1],λi p q hp hq=>?_⟩;cases i with
   |zero=>simp at hp hq;subst hp hq;exact⟨rfl,hr.kK hy⟩
   |succ i=>simp at hp hq;exact h2 i p q (by simpa using hp) hq
  .cases h
theorem b1s(hr:Rel P G base R μ st a w):∀ {l:List (Nat×Operand)} {qs:List (Nat×List DV)},yX G st l=some qs->
  l.length=qs.length/\∀(i:Nat) (p:Nat×Value) (q:Nat×List DV),(l.map λx=>(x.1,a.eval x.2))[i]? =some p->qs[i]? =some q->p.1=q.1/\c5y R μ w p.2 q.2
 |[],qs,h=>by simp[yX]at h;subst h;simp
 |(j,x)::l,qs,h=>by
  simp only[yX]at h;split at h
  .rename_i y ds hy hds;simp at h;subst h;obtain⟨h1,h2⟩:=b1s hr hds;refine⟨by simp[h1],λi p q hp hq=>?_⟩;cases i with
   |zero=>simp at hp hq;subst hp hq;exact⟨rfl,a6i (hr.eval x) hy⟩
   |succ i=>simp at hp hq;exact h2 i p q (by simpa using hp) hq
  .cases h
theorem c5z{t:TypeId}{z:List DV}(h:c1M P t=some z)(w:World):∃v,(zeroValue t).run P w=.ok v w/\v.cells.size=z.length/\(∀(i:Nat) (d:DV),z[i]? =some d->d.cell=true/\TV R μ w (v.cells.getD i undef) d/\(v.cells.getD i undef).oneCell'=true):=by
 unfold c1M at h;cases hi:P.info? t with
 |none=>simp[hi]at h
 |some i=>
  cases hz:i.zero with
  |none=>simp[hi,hz]at h
  |some v=>
   simp only[hi,hz,Option.bind_some]at h;split at h
   .rename_i dB;cases h;refine⟨v,by simp[zeroValue,typeInfo,hi,hz],by simp,λj d hj=>?_⟩;rw[f7R]at hj;obtain⟨y,hy,rfl⟩:=f7G.1 hj;have he:v.cells.getD j undef=y:=by
     have:v.cells[j]? =some y:=by simpa using hy
     simp[f7J,this]
    have h1:=f7K.1 dB y (f7M hy);rw[he];unfold cellOf;split
    .rename_i x hx;exact⟨(wV (R:=R) (w:=w) hx).2,.d _ _ (wV hx).1,h1⟩
    .exact⟨rfl,.undef _,h1⟩
   .cases h
theorem c5A{o:Oper}{t:TypeId}{parts:Array (Nat×Operand)}(ho:o.op=.build t parts)(hs:cU P t=true)(h:a6g P G t parts st=some out):rL P G o st out:=by
 unfold a6g at h;split at h
 .rename_i z ps hz hps;simp only[f7G]at h;obtain⟨r,eM,rfl⟩:=h;unfold cU at hs;split at hs
  .rename_i fs hfs;refine bJ λbase R μ a w hr=>?_;obtain⟨zv,hz1,hz2,hz3⟩:=c5z (R:=R) (μ:=μ) hz w;obtain⟨hl,hp⟩:=b1s hr hps;have hm:=zA w fs.toList (λf hf=>by simpa using f7K.1 hs f hf);obtain⟨uJ,hc1,hc2,hc3⟩:=c1U (R:=R) (μ:=μ) (w:=w) hfs (pl:=λi=>((fs.toList.map λf=>(f.offset,P.cellsOf f.type)).toArray)[i]?) (λi=>by simp)
    (parts.toList.map λx=>(x.1,a.eval x.2)) ps zv.cells z r (by simpa using hl) hp hz2 hz3 eM
   refine⟨.agg uJ,?_,.ag _ _ hc2 (λi hi=>(hc3 i _ (f7L hi)).2.2) (λi d hi=>(hc3 i d hi).1) (λi d hi=>(hc3 i d hi).2.1),trivial⟩;have hmm:(fs.mapM (λf=>do pure (f.offset, <- sizeOf f.type)):Sem (Array (Nat×Nat))).run P w=.ok (fs.toList.map λf=>(f.offset,P.cellsOf f.type)).toArray w:=by rw[Array.mapM_eq_mapM_toList];simp only[Sem.run_map,hm,Result.andThen_ok]
   have hpl:(parts.map λ(x:Nat×Operand)=>(x.1,a.eval x.2)).toList=parts.toList.map λx=>(x.1,a.eval x.2):=by simp
   simp only[execOp,ho,Instr.build,Sem.run_bind,hz1,Result.andThen_ok,run_underlying hfs,hmm,Sem.run_pure];rw[hpl,hc1]
   rfl
  .cases hs
 .cases h
theorem b7I{o:Oper}{t:TypeId}{parts:Array (Nat×Operand)}(ho:o.op=.build t parts)(h:a7w P G t parts st=some out):rL P G o st out:=by
 unfold a7w at h;split at h
 .rename_i hs;have qP:=hs;split at h
  .rename_i z ps hz hps;simp only[f7G]at h;obtain⟨r,eM,rfl⟩:=h;unfold cU at hs;split at hs
   .rename_i fs hfs;refine bJ λbase R μ a w hr=>?_;obtain⟨zv,hz1,hz2,hz3⟩:=b3z (R:=R) hz w;obtain⟨hl,hp⟩:=a4L hr hps;have hm:=zA w fs.toList (λf hf=>by simpa using f7K.1 hs f hf);obtain⟨uJ,hc1,hc2,hc3⟩:=c7I (R:=R) (w:=w) hfs (pl:=λi=>((fs.toList.map λf=>(f.offset,P.cellsOf f.type)).toArray)[i]?) (λi=>by simp)
     (parts.toList.map λx=>(x.1,a.eval x.2)) ps zv.cells z r (by simpa using hl) hp hz2 hz3 eM
    refine⟨.agg uJ,?_,.d _ _ (.agg _ _ hc2 (λi d hi=>(hc3 i d hi).1) λi d hi=>(hc3 i d hi).2),trivial⟩;have hmm:(fs.mapM (λf=>do pure (f.offset, <- sizeOf f.type)):Sem (Array (Nat×Nat))).run P w=.ok (fs.toList.map λf=>(f.offset,P.cellsOf f.type)).toArray w:=by rw[Array.mapM_eq_mapM_toList];simp only[Sem.run_map,hm,Result.andThen_ok]
    have hpl:(parts.map λ(x:Nat×Operand)=>(x.1,a.eval x.2)).toList=parts.toList.map λx=>(x.1,a.eval x.2):=by simp
    simp only[execOp,ho,Instr.build,Sem.run_bind,hz1,Result.andThen_ok,run_underlying hfs,hmm,Sem.run_pure];rw[hpl,hc1]
    rfl
   .cases hs
  .exact c5A ho qP h
 .cases h
theorem c5B(hr:Rel P G base R μ st a w){i:Operand}{n:D}{m j:Nat}(hi:st.eval G i=.d n)(h:idx n m=some j):∃k,a.eval i=.int k j/\j<m:=by obtain⟨k,q,rfl,h0,h1,rfl,h2⟩:=b3y h;exact⟨k,by rw[hr.vL hi];congr 1;omega,h2⟩
theorem V.a0z{v:Value}{es:List (List D)}(h:V R w v (.sl es)):∃ao cap,v=.slice ao es.length cap/\es.length<=cap/\(es≠[]->∃b o size,ao=some ⟨b,o,none⟩/\0<size/\(∀e∈es,e.length=size)/\
  ∀(i:Nat) (e:List D),es[i]? =some e->Run R w b (o+i*size) e):=by
 cases h with
 |emp ao cap=>exact⟨ao,cap,rfl,Nat.zero_le _,λh=>absurd rfl h⟩
 |sl b o n cap size es f h1 h2 h3 h4 h5 h6 h7=>
  subst h1;refine⟨_,cap,rfl,h2,λ_=>⟨b,o,size,rfl,h3,h4,λi e hi j d hj=>?_⟩⟩;have tY:i<es.length:=(f7I.1 hi).1;have hjl:j<size:=by rw[<-h4 e (f7M hi)];exact(f7I.1 hj).1
  obtain⟨q1,q2⟩:=h5 i j tY hjl;exact⟨h6 i j e d hi hj,q1,f i j,q2,h7 i j e d hi hj⟩
theorem gZ{t:TypeId}(h:P.cellsOf t≠0):(P.info? t).isSome=true:=by
 cases hi:P.info? t with
 |none=>simp[Program.cellsOf,hi]at h
 |some i=>rfl
theorem b6E{o:Oper}{t:TypeId}{x i:Operand}(ho:o.op=.indexAddr t x i)(h:uH P G t x i st=some out):rL P G o st out:=by
 unfold uH at h;split at h
 .rename_i e es n hu hx hi;simp only[f7V]at h;obtain⟨j,hj,cs,qO,h⟩:=h;split at h<;>simp at h;rename_i hlen;subst h;refine bJ λbase R μ a w hr=>?_;obtain⟨k,hk,hjl⟩:=c5B hr hi hj;obtain⟨ao,cap,hv,b6F,eF⟩:=(hr.kK hx).a0z;obtain⟨b,off,size,rfl,hs0,hs1,cZ⟩:=eF (by rintro rfl;simp at qO);have jG:size=P.cellsOf e:=by rw[<-hlen,hs1 cs (f7M qO)]
  have hso:=tZ (gZ (P:=P) (t:=e) (by omega)) w;refine⟨.pointer (some ⟨b,off+j*size,none⟩),?_,.ep _ _ _ (cZ j cs qO),trivial⟩;simp[execOp,ho,hv,hk,Instr.indexAt,run_underlying hu,asIntOf,hjl,hso,qN,jG]
 .rename_i len e k off n hu hx hi;split at h
  .cases h
  .rename_i eF;simp only[f7G]at h;obtain⟨j,hj,rfl⟩:=h;refine bJ λbase R μ a w hr=>?_;obtain⟨q,hq,hjl⟩:=c5B hr hi hj;exact⟨.pointer (some ⟨μ k,off+j*P.cellsOf e,none⟩),by simp[execOp,ho,hr.eC hx,hq,Instr.indexAt,run_underlying hu,asIntOf,Instr.sureAddr,hjl,tZ (gZ eF) w,qN],.ptr _ _,trivial⟩
 .rename_i len e cs n hu hx hi;split at h
  .cases h
  .rename_i eF;simp only[f7G]at h;obtain⟨j,hj,rfl⟩:=h;refine bJ λbase R μ a w hr=>?_;obtain⟨q,hq,hjl⟩:=c5B hr hi hj;obtain⟨b,off,he,cZ⟩:=(hr.oT hx).b0B;exact⟨.pointer (some ⟨b,off+j*P.cellsOf e,none⟩),by simp[execOp,ho,he,hq,Instr.indexAt,run_underlying hu,asIntOf,Instr.sureAddr,hjl,tZ (gZ eF) w,qN],.ep _ _ _ (cZ.drop _),trivial⟩
 .cases h
theorem a0A(b o:Nat)(f:Field){i:TypeInfo}(hi:P.info? f.type=some i)(h:P.cellsOf f.type≠0):(fieldPlace ⟨b,o,none⟩ f).run P w=.ok ⟨b,o+f.offset,none⟩ w:=by
 have: ¬i.size=0:=by simpa[Program.cellsOf,hi]using h
 simp[fieldPlace,sizeOf,typeInfo,hi,this,qN]
theorem b6G{o:Oper}{t:TypeId}{x:Operand}{i:Nat}(ho:o.op=.fieldAddr t x i)(h:sE P G t x i st=some out):rL P G o st out:=by
 unfold sE at h;split at h
 .rename_i off u hf;obtain⟨fs,f,h1,h2,rfl,rfl⟩:=vM hf;split at h
  .cases h
  .rename_i eF;have hi:∃i,P.info? f.type=some i:=by
    cases hi:P.info? f.type with
    |none=>simp[Program.cellsOf,hi]at eF
    |some i=>exact⟨i,rfl⟩
   obtain⟨ti,hti⟩:=hi;split at h<;>simp at h<;>subst h
   .rename_i k off hx;exact bJ λbase R μ a w hr=>⟨.pointer (some ⟨μ k,off+f.offset,none⟩),by simp[execOp,ho,hr.eC hx,Instr.fieldAt,run_underlying h1,h2,Instr.sureAddr,a0A (w:=w) (μ k) off f hti eF],.ptr _ _,trivial⟩
   .rename_i cs hx;refine bJ λbase R μ a w hr=>?_;obtain⟨b,off,he,cZ⟩:=(hr.oT hx).b0B;exact⟨.pointer (some ⟨b,off+f.offset,none⟩),by simp[execOp,ho,he,Instr.fieldAt,run_underlying h1,h2,Instr.sureAddr,a0A (w:=w) b off f hti eF],.ep _ _ _ (cZ.drop _),trivial⟩
 .cases h
end
end Go.VM
namespace Go.VM
open Go Go.RowKit
section
variable {P:Program} {G:GT} {st:St} {out:Out}
variable {base:cT} {R:Nat->Nat->Prop} {μ:Nat->Nat} {a:Act} {w:World}
theorem b1t(n:Nat){xs ys:Array Value}{ps qs:List D}(hxs:∀(i:Nat) (d:D),ps[i]? =some d->V R w (xs.getD i undef) d)(hys:∀(i:Nat) (d:D),qs[i]? =some d->V R w (ys.getD i undef) d)(hx:xs.size=ps.length)(hy:ys.size=qs.length):
  ∀(fs:List Field) (k:Nat) (r:Bool),(∀(i:Nat) (f:Field),fs[i]? =some f->f.name≠ "_" /\f.offset=k+i/\∃d,P.underlying f.type=some d/\pZ d=true/\∀p,ps[k+i]? =some p->sV P f.type p=true)->
   k+fs.length=ps.length->zR (ps.drop k) (qs.drop k)=some r->(Op.eqFields (n+1) xs ys fs).run P w=.ok r w
 |[],k,r,_,hl,h=>by
  rw[List.drop_eq_nil_of_le (by simp at hl;omega)]at h;cases hq:qs.drop k with
  |nil=>rw[hq]at h;simp[zR]at h;subst h;simp[Op.eqFields]
  |cons c cs=>rw[hq]at h;simp[zR]at h
 |f::fs,k,r,hf,hl,h=>by
  obtain⟨hn,ho,d,hd,hs,hk⟩:=hf 0 f rfl;simp only[Nat.add_zero]at ho hk;have hkl:k<ps.length:=by simp at hl;omega
  rw[f7U hkl]at h;cases hq:qs.drop k with
  |nil=>rw[hq]at h;simp[zR]at h
  |cons c cs=>
   have hkq:k<qs.length:=by have:=congrArg List.length hq;simp at this;omega
   rw[f7U hkq]at h;simp only[zR]at h;split at h
   .rename_i x y hx1 hy1;simp at h;subst h;have v1:=hxs k ps[k] (by simp[hkl]);have v2:=hys k qs[k] (by simp[hkq]);have he:=c8V n hd hs v1 v2 hx1 (hk ps[k] (by simp[hkl]));have hp:∀(zs:Array Value),k<zs.size->(part f.type zs k).run P w=.ok (zs.getD k undef) w:=λzs hz=>by
     unfold part;simp only[Sem.run_bind,uU hd,Result.andThen_ok];have:pE d=false:=by cases d<;>simp_all [pZ,pE]
     simp[this,hz]
    have ih:=b1t n hxs hys hx hy fs (k+1) y (λi f' hi=>by
     have:=hf (i+1) f' (by simpa using hi)
     rwa[show k+(i+1)=k+1+i by omega]at this) (by simp at hl;omega) hy1
    simp only[Op.eqFields,hn,ne_eq,not_false_eq_true,if_true,Sem.run_bind,ho,hp xs (by rw[hx];exact hkl),hp ys (by rw[hy];exact hkq),Result.andThen_ok,he];cases x
    .simp
    .simp[ih]
   .cases h
theorem a6T:∀(k:Nat) (fs:List Field) (ds:List TypeDesc) (ps:List D),a2w P k fs=some ds->yF ds ps=true->
  fs.length=ps.length/\∀(i:Nat) (f:Field),fs[i]? =some f->f.name≠ "_" /\f.offset=k+i/\∃d,P.underlying f.type=some d/\pZ d=true/\∀p,ps[i]? =some p->sV P f.type p=true
 |k,[],ds,ps,h,hf=>by simp[a2w]at h;subst h;cases ps<;>simp[yF]at hf;simp
 |k,f::fs,ds,ps,h,hf=>by
  simp only[a2w]at h;split at h
  .rename_i d ds' hd hds;split at h<;>simp at h;rename_i hc;subst h;cases ps with
   |nil=>simp[yF]at hf
   |cons p ps=>
    simp only[yF,f7H]at hf;obtain⟨h1,h2⟩:=a6T (k+1) fs ds' ps hds hf.2;refine⟨by simp[h1],λi g hi=>?_⟩;cases i with
    |zero=>simp at hi;subst hi;exact⟨hc.1,by omega,d,hd,hc.2.2,λp' hp'=>by simp at hp';subst hp';simp[sV,hd,hf.1]⟩
    |succ i=>simp at hi;obtain⟨q1,q2,q3⟩:=h2 i g hi;exact⟨q1,by omega,by simpa using q3⟩
  .cases h
theorem d6X{o:Oper}{op:BinOp}{t u:TypeId}{x y:Operand}(ho:o.op=.binOp op t x y u)(h:c5u P G op t x y st=some out):rL P G o st out:=by
 unfold c5u at h;split at h
 .rename_i p q hx hy;simp only[f7G]at h;obtain⟨c,hc,rfl⟩:=h;refine bJ λbase R μ a w hr=>?_;have hv:∃r,(do eqGuard op t x y (a.eval x) (a.eval y);binOp op t (a.eval x) (a.eval y):Sem Value).run P w=.ok r w/\V R w r c:=by
   have vx:=hr.kK hx;have vy:=hr.kK hy;unfold d1z at hc;split at hc
   .rename_i b1 b2;obtain he1:=vx.vK;obtain he2:=vy.vK;rw[he1,he2];split at hc<;>simp at hc<;>subst hc
    .rename_i hu;exact⟨.bool (b1==b2),by simp[eqGuard,binOp,run_equal_bool w t b1 b2 hu],.bool _⟩
    .rename_i hu;exact⟨.bool !(b1==b2),by simp[eqGuard,binOp,run_equal_bool w t b1 b2 hu],.bool _⟩
   .rename_i ps qs;split at hc
    .rename_i ds hfl;obtain⟨xs,he1,hs1,f0y⟩:=vx.a3c;obtain⟨ys,he2,hs2,f0z⟩:=vy.a3c;have hv1:=λi d hi=>(f0y i d hi).2;have hv2:=λi d hi=>(f0z i d hi).2;rw[he1,he2];unfold b7D at hfl;split at hfl
     .rename_i fs hfs;have hfl:(P.eqGuardType P.depth t=false/\P.stoodInHeld t=false)/\a2w P 0 fs.toList=some ds:=by
       split at hfl
       .rename_i h;exact⟨h,hfl⟩
       .cases hfl
      obtain⟨hg1,hg2⟩:=hfl.1;by_cases jR:yF ds ps=true
      case neg=>rw[if_neg jR]at hc;cases hc
      rw[if_pos jR]at hc;have hfo:P.fieldsOf t=fs:=by simp[Program.fieldsOf,hfs]
      have cZ:∀r,zR ps qs=some r->(Op.equalIn 10000 t (.agg xs) (.agg ys)).run P w=.ok r w:=λr eM=>by rw[run_equalIn_struct w 9999 t xs ys (by rw[hfo];exact hfs) hg2,hfo];obtain⟨hl,hf'⟩:=a6T 0 fs.toList ds ps hfl.2 jR;exact b1t 9998 hv1 hv2 hs1 hs2 fs.toList 0 r (λi f hi=>by simpa using hf' i f hi) (by simpa using hl) (by simpa using eM)
      have hgd:(eqGuard op t x y (.agg xs) (.agg ys)).run P w=.ok () w:=run_eqGuard_agg w op t x y xs ys hg1;split at hc<;>simp at hc<;>subst hc
      .rename_i r eM;exact⟨.bool r,by simp only[Sem.run_bind,hgd,Result.andThen_ok,run_eql_struct,cZ r eM],.bool _⟩
      .rename_i r eM;exact⟨.bool !r,by simp only[Sem.run_bind,hgd,Result.andThen_ok,run_neq_struct,cZ r eM],.bool _⟩
     .cases hfl
    .cases hc
   .exact d1E vx vy hc
  obtain⟨r,h1,h2⟩:=hv;refine⟨r,?_,.d _ _ h2,trivial⟩;simp only[execOp,ho];rw[Sem.run_bind,h1]
  rfl
 .cases h
theorem a6U(w:World){t e:TypeId}(hu:P.underlying t=some (.slice e))(ao:Option Addr)(n cap:Nat):(Op.equal t (.slice ao n cap) (.slice none 0 0)).run P w=.ok ao.isNone w:=by unfold Op.equal;unfold Op.maxDepth;unfold Op.equalIn;simp only[Sem.run_bind,run_underlying hu,Result.andThen_ok];cases ao<;>rfl
theorem V.e0r{v:Value}{es:List (List D)}(h:V R w v (.sl es)):∃ao n cap,v=.slice ao n cap/\(es.length≠0->ao.isNone=false):=by
 cases h with
 |emp ao cap=>exact⟨ao,0,cap,rfl,λh=>absurd rfl h⟩
 |sl b o n cap size es f=>exact⟨_,_,_,rfl,λ_=>rfl⟩
theorem c1V{o:Oper}{op:BinOp}{t u:TypeId}{x y:Operand}(ho:o.op=.binOp op t x y u)(hy:b9q y=true)(h:a0s P G op t x st=some out):rL P G o st out:=by
 have hy':y=.const (.slice none 0 0):=by
  unfold b9q at hy;split at hy
  .rfl
  .cases hy
 subst hy';have cZ:∀(a:Act) (w:World) (e:TypeId) (ao:Option Addr) (n cap:Nat),P.underlying t=some (.slice e)->a.eval x=.slice ao n cap->
   (op=.eql->(execOp a.eval o).run P w=.ok (.value (.bool ao.isNone)) w)/\(op=.neq->(execOp a.eval o).run P w=.ok (.value (.bool !ao.isNone)) w):=λa w e ao n cap hu hx=>by
  have hc:a.eval (.const (.slice none 0 0))=.slice none 0 0:=rfl;constructor
  .rintro rfl;simp only[execOp,ho,hx,hc];simp[eqGuard,binOp,a6U w hu]
  .rintro rfl;simp only[execOp,ho,hx,hc];simp[eqGuard,binOp,a6U w hu]
 unfold a0s at h;split at h
 .rename_i e es hu hx;simp only[f7N]at h;subst h;refine bJ λbase R μ a w hr=>?_;obtain⟨ao,n,cap,hv,eF⟩:=(hr.kK hx).e0r;refine⟨_,(cZ a w e ao n cap hu hv).1 rfl,?_,trivial⟩;by_cases h0:es.length=0
  .rw[if_pos h0];exact .oY _
  .rw[if_neg h0,eF h0];exact .d _ _ (.bool _)
 .rename_i e es hu hx;simp only[f7N]at h;subst h;refine bJ λbase R μ a w hr=>?_;obtain⟨ao,n,cap,hv,eF⟩:=(hr.kK hx).e0r;refine⟨_,(cZ a w e ao n cap hu hv).2 rfl,?_,trivial⟩;by_cases h0:es.length=0
  .rw[if_pos h0];exact .oY _
  .rw[if_neg h0,eF h0];exact .d _ _ (.bool _)
 .rename_i e hu hx;simp only[f7N]at h;subst h;refine bJ λbase R μ a w hr=>?_;obtain⟨ao,hv⟩:=(hr.kK hx).jQ;exact⟨_,(cZ a w e ao 0 0 hu hv).1 rfl,.oY _,trivial⟩
 .rename_i e hu hx;simp only[f7N]at h;subst h;refine bJ λbase R μ a w hr=>?_;obtain⟨ao,hv⟩:=(hr.kK hx).jQ;exact⟨_,(cZ a w e ao 0 0 hu hv).2 rfl,.oY _,trivial⟩
 .cases h
theorem d1I{o:Oper}{op:BinOp}{t u:TypeId}{x y:Operand}(ho:o.op=.binOp op t x y u)(h:b3u P G op t x y st=some out):rL P G o st out:=by
 unfold b3u at h;split at h
 .exact c1V ho ‹_› h
 .exact d6X ho h
theorem d1J{src dst:TypeId}{p c:D}{v:Value}(hv:V R w v p)(h:c7B P src dst p=some c):∃r,(convert src dst v).run P w=.ok r w/\V R w r c:=by
 unfold c7B at h;split at h
 .rename_i d k k' n hs hd;simp only[f7N]at h;subst h;obtain rfl:=hv.sW;exact⟨_,by simp[convert,run_underlying hs,run_underlying hd,Conv.intToInt],.int _ _⟩
 .rename_i d s hs hd;simp only[f7N]at h;subst h;obtain rfl:=hv.oP;exact⟨_,by simp[convert,run_underlying hs,run_underlying hd],.str _⟩
 .rename_i e es hs hd;split at h
  .rename_i hu;simp only[f7G]at h;obtain⟨bs,hbs,rfl⟩:=h;unfold c8O at hu;split at hu<;>simp at hu;rename_i he;obtain⟨ao,cap,rfl,b6F,eF⟩:=hv.a0z;refine⟨.string ⟨bs.toArray⟩,?_,.str _⟩;rw[run_convert_bytes_string w src dst e _ _ _ hs he hd];have b3B:∀(es:List (List D)) (bs:List UInt8),wU es=some bs->∃ns:List Int,es=ns.map (λn=>[D.int .u8 n])/\bs=ns.map λn=>UInt8.ofNat n.toNat:=by
    intro es
    induction es with
    |nil=>intro bs h;simp[wU]at h;subst h;exact⟨[],rfl,rfl⟩
    |cons c es ih=>
     intro bs h;unfold wU at h;split at h
     .rename_i heq;cases heq
     .rename_i n l heq;simp only[f7G]at h;obtain⟨bs',hb',rfl⟩:=h;cases heq;obtain⟨ns,h1,h2⟩:=ih bs' hb';exact⟨n::ns,by simp[h1],by simp[h2]⟩
     .cases h
   obtain⟨ns,he1,he2⟩:=b3B es bs hbs;cases ao with
   |none=>
    have:es=[]:=by
     cases es with
     |nil=>rfl
     |cons c l=>obtain⟨b,o,size,h,_⟩:=eF (by simp);cases h
    subst this;simp[wU]at hbs;subst hbs;simp[Conv.bytesToString]
    rfl
   |some ad=>
    have hl:(loadCells ad es.length).run P w=.ok (ns.map (Value.int .u8)).toArray w:=by
     by_cases b3C:es=[]
     .subst b3C;have:ns=[]:=by simpa using he1.symm
      subst this;simp[loadCells,loadCellsFrom]
     .obtain⟨b,o,size,ha,hs0,hs1,cZ⟩:=eF b3C;cases ha;have hn:∀j,j<ns.length->w.cell? ((⟨b,o,none⟩:Addr).add j)=some (.int .u8 (ns.getD j 0)):=λj hj=>by
       have hej:es[j]? =some [D.int .u8 (ns.getD j 0)]:=by rw[he1];simp[hj]
       have jG:size=1:=by rw[<-hs1 _ (f7M hej)];rfl
       obtain⟨_,_,v,hc,hv⟩:=cZ j _ hej 0 _ rfl;rw[qN];rw[jG,Nat.mul_one,Nat.add_zero]at hc;rw[hc,hv.sW]
      have hlen:es.length=(ns.map (Value.int .u8)).length:=by rw[he1];simp
      rw[hlen];exact run_loadCells_list (P:=P) w _ (ns.map (Value.int .u8)) (λj v hj=>by simp only[f7R,f7G]at hj;obtain⟨n,hn',rfl⟩:=hj;have hjl:=(f7I.1 hn').1;rw[hn j hjl];simp[List.getD,hn'])
    rw[run_bytesToString w ad es.length cap ns hl];have e7a:∀(ns:List Int) (s:List UInt8),ns.foldl (λ(r:ByteArray) n=>r.push (UInt8.ofNat n.toNat)) ⟨s.toArray⟩=⟨(s++ns.map λn=>UInt8.ofNat n.toNat).toArray⟩:=by
     intro ns
     induction ns with
     |nil=>intro s;simp
     |cons n ns ih=>
      intro s;have hp:(⟨s.toArray⟩:ByteArray).push (UInt8.ofNat n.toNat)=⟨(s++[UInt8.ofNat n.toNat]).toArray⟩:=by apply ByteArray.ext;simp[ByteArray.push]
      simp only[List.foldl_cons,hp,ih];simp
    have:=e7a ns [];simp only[List.nil_append]at this;rw[he2, <- this]
    rfl
  .cases h
 .rename_i e hs hd;split at h
  .rename_i hu;simp only[f7N]at h;subst h;unfold c8O at hu;split at hu<;>simp at hu;rename_i he;obtain⟨ao,rfl⟩:=hv.jQ;refine⟨.string ⟨#[]⟩,?_,.str []⟩;rw[run_convert_bytes_string w src dst e _ _ _ hs he hd];cases ao with
   |none=>simp[Conv.bytesToString];rfl
   |some ad=>
    rw[run_bytesToString w ad 0 0 [] (by simp[loadCells,loadCellsFrom])]
    rfl
  .cases h
 .cases h
theorem d1K{o:Oper}{src dst:TypeId}{x:Operand}(ho:o.op=.convert src dst x)(h:b3v P G src dst x st=some out):rL P G o st out:=by
 unfold b3v at h;split at h
 .rename_i p hx;simp only[f7G]at h;obtain⟨c,hc,rfl⟩:=h;refine bJ λbase R μ a w hr=>?_;obtain⟨r,h1,h2⟩:=d1J (hr.kK hx) hc;exact⟨r,by simp[execOp,ho,h1],.d _ _ h2,trivial⟩
 .cases h
theorem a3e(s:List UInt8):(⟨s.toArray⟩:ByteArray).size=s.length:=by simp[ByteArray.size]
theorem uK{r:Nat}{es:Array MapEntry}{clock:Nat}(hb:w.heap[r]? =some (.map es clock)):(getObj r).run P w=.ok (.map es clock) w:=by simp[getObj,Sem.run,hb]
theorem d6Z{o:Oper}{x:Operand}{t:TypeId}(ho:o.op=.call {callee:=.builtin .len,args:=#[x],argTypes:=#[t]})(h:c8P P G t x st=some out):rL P G o st out:=by
 unfold c8P at h;split at h
 .rename_i s hu hx;simp only[f7N]at h;subst h;exact bJ λbase R μ a w hr=>⟨.int .i64 s.length,by simp[execOp,ho,resolve,invoke,builtin,Builtin.len_,run_underlying hu,hr.a8R hx,goInt,a3e],.d _ _ (.int _ _),trivial⟩
 .rename_i e es hu hx;simp only[f7N]at h;subst h;refine bJ λbase R μ a w hr=>⟨.int .i64 es.length,?_,.d _ _ (.int _ _),trivial⟩;obtain⟨ao,cap,he,_⟩:=(hr.kK hx).a0z;simp[execOp,ho,resolve,invoke,builtin,Builtin.len_,run_underlying hu,he,goInt]
 .rename_i e hu hx;simp only[f7N]at h;subst h;refine bJ λbase R μ a w hr=>⟨.int .i64 0,?_,.d _ _ (.int _ _),trivial⟩;obtain⟨ao,he⟩:=(hr.kK hx).jQ;simp[execOp,ho,resolve,invoke,builtin,Builtin.len_,run_underlying hu,he,goInt]
 .rename_i kt et k hu hx;split at h
  .rename_i es hk;simp only[f7N]at h;subst h;refine bJ λbase R μ a w hr=>⟨.int .i64 es.length,?_,.d _ _ (.int _ _),trivial⟩;obtain⟨_,_,oZ,clock,hh,jG,_⟩:=hr.gY k _ hk;simp[execOp,ho,resolve,invoke,builtin,Builtin.len_,run_underlying hu,hr.a7C hx,goInt,uK (P:=P) hh,jG]
  .cases h
 .cases h
def OB(x:Option Value)(c8N n j:Nat):Prop:=(x=none/\j=c8N)\/∃k,x=some (.int k (j:Int))/\j<=n
theorem mO(hr:Rel P G base R μ st a w){x:Option Operand}{c8N n j:Nat}(h:eW G st x c8N n=some j):OB (x.map a.eval) c8N n j:=by
 unfold eW at h;split at h
 .simp at h;exact .inl ⟨rfl,h.symm⟩
 .rename_i y;split at h
  .rename_i z hz;unfold bound at h;split at h
   .rename_i k i;split at h<;>simp at h;rename_i hb;subst h;refine .inr ⟨k,?_,by omega⟩;simp only[Option.map_some,hr.vL hz];congr 2;omega
   .cases h
  .cases h
theorem run_sliceBound(k:IntKind)(j n:Nat)(h:j<=n)(c:BoundsCode):(Instr.sliceBound (.int k (j:Int)) n c).run P w=.ok j w:=by simp[Instr.sliceBound,asIntOf,h]
theorem a7D(isSlice:Bool)(len cap l h:Nat)(lo hi:Option Value)(hlen:len<=cap)(hh:OB hi len len h)(hl:OB lo 0 h l):(Instr.sliceBounds isSlice len cap lo hi none).run P w=.ok (l,h,cap) w/\l<=h/\h<=len:=by
 have h1:h<=len:=by rcases hh with⟨_,rfl⟩|⟨k,_,h⟩<;>omega
 have h2:l<=h:=by rcases hl with⟨_,rfl⟩|⟨k,_,h⟩<;>omega
 refine⟨?_,h2,h1⟩;rcases hh with⟨rfl,rfl⟩|⟨k,rfl,hk⟩
 .rcases hl with⟨rfl,rfl⟩|⟨k',rfl,hk'⟩
  .simp[Instr.sliceBounds]
  .simp[Instr.sliceBounds,run_sliceBound (P:=P) (w:=w) k' l h hk']
 .rcases hl with⟨rfl,rfl⟩|⟨k',rfl,hk'⟩
  .simp[Instr.sliceBounds,run_sliceBound (P:=P) (w:=w) k h cap (by omega)]
  .simp[Instr.sliceBounds,run_sliceBound (P:=P) (w:=w) k h cap (by omega),run_sliceBound (P:=P) (w:=w) k' l h hk']
theorem V.sub{ao:Option Addr}{es:List (List D)}{cap:Nat}(hv:V R w (.slice ao es.length cap) (.sl es))(l h size:Nat)(hlh:l<=h)(hhl:h<=es.length)(b6F:es.length<=cap)(jG:∀e∈es,e.length=size):V R w (.slice (if cap=l then ao else ao.map (·.add (l*size))) (h-l) (cap-l)) (.sl ((es.take h).drop l)):=by
 have hlen:((es.take h).drop l).length=h-l:=by simp;omega
 by_cases hz:h-l=0
 .rw[hz];have:(es.take h).drop l=[]:=List.eq_nil_of_length_eq_zero (by rw[hlen,hz]);rw[this];exact .emp _ _
 .obtain⟨ao',d7a,he,_,eF⟩:=hv.a0z;cases he;obtain⟨b,o,a1x,rfl,hs0,hs1,cZ⟩:=eF (by rintro rfl;simp at hhl;omega);have vN:a1x=size:=by
   have h0l:0<es.length:=by omega
   have hm:es[0]? =some es[0]:=by simp
   have h1:=hs1 es[0] (f7M hm);have h2:=jG es[0] (f7M hm);omega
  subst vN;rw[if_neg (by omega)];simp only[Option.map_some,qN];have a4t:∀(i:Nat) (e:List D),((es.take h).drop l)[i]? =some e->es[l+i]? =some e:=λi e hi=>by
   rw[f8a,List.getElem?_take]at hi;split at hi
   .exact hi
   .cases hi
  have oV:∀(i j:Nat),i<h-l->j<a1x->R b (o+l*a1x+i*a1x+j)/\∃v d,w.cell? ⟨b,o+l*a1x+i*a1x+j,none⟩=some v/\((es.take h).drop l)[i]?.bind (·[j]?)=some d/\d.one=true/\V R w v d:=λi j hi hj=>by
   have tY:l+i<es.length:=by omega
   have hei:es[l+i]? =some es[l+i]:=by simp[tY]
   have hjl:j<(es[l+i]).length:=by rw[hs1 _ (f7M hei)];exact hj
   obtain⟨h1,h2,v,h3,h4⟩:=cZ (l+i) es[l+i] hei j (es[l+i])[j] (by simp[hjl]);have f0C:o+(l+i)*a1x+j=o+l*a1x+i*a1x+j:=by rw[Nat.add_mul];omega
   rw[f0C]at h2 h3;refine⟨h2,v,(es[l+i])[j],h3,?_,h1,h4⟩;rw[f8a,List.getElem?_take,if_pos (by omega),hei];simp[hjl]
  refine .sl b (o+l*a1x) (h-l) (cap-l) a1x _ (λi j=>(w.cell? ⟨b,o+l*a1x+i*a1x+j,none⟩).getD undef) hlen.symm (by omega) hs0 (λe he=>?_) (λi j hi hj=>?_) (λi j e d he hd=>?_) (λi j e d he hd=>?_)
  .exact jG e (List.mem_of_mem_take (List.mem_of_mem_drop he))
  .obtain⟨h1,v,d,h2,_⟩:=oV i j hi hj;exact⟨h1,by rw[h2];rfl⟩
  .exact(cZ _ e (a4t i e he) j d hd).1
  .have tY:i<h-l:=by rw[<-hlen];exact(f7I.1 he).1
   have hjl:j<a1x:=by rw[<-jG e (List.mem_of_mem_take (List.mem_of_mem_drop (f7M he)))];exact(f7I.1 hd).1
   obtain⟨h1,v,d',h2,h3,h4,h5⟩:=oV i j tY hjl;rw[he]at h3;simp only[Option.bind_some]at h3;rw[hd]at h3;cases h3;rw[h2];exact h5
theorem c1Y(s:List UInt8)(l h:Nat):(⟨s.toArray⟩:ByteArray).extract l h=⟨((s.take h).drop l).toArray⟩:=by rw[ByteArray.extract_mk];congr 2;rw[List.drop_take]
end
end Go.VM
namespace Go.VM
open Go Go.RowKit
section
variable {P:Program} {G:GT} {st:St} {out:Out}
variable {base:cT} {R:Nat->Nat->Prop} {μ:Nat->Nat} {a:Act} {w:World}
theorem vO{t e:TypeId}(hu:P.underlying t=some (.slice e))(ao:Option Addr)(len cap:Nat)(lo hi mx:Option Value):
  (Instr.sliceAt t (.slice ao len cap) lo hi mx).run P w=((Instr.sliceBounds true len cap lo hi mx).run P w).andThen λb w'=>((sizeOf e).run P w').andThen λs w''=>.ok (.slice (if b.2.2=b.1 then ao else ao.map (·.add (b.1*s))) (b.2.1-b.1) (b.2.2-b.1)) w'':=by
 simp only[Instr.sliceAt,Instr.slice,Sem.run_bind,run_underlying hu,Result.andThen_ok,Sem.run_pure]
theorem b1u(hr:Rel P G base R μ st a w)(len cap:Nat){lo hi:Option Operand}{m:Operand}(h1:lo.isNone=true)(h2:eW G st hi 1 0=some 0)(h3:eW G st (some m) 1 0=some 0):
  (Instr.sliceBounds true len cap (lo.map a.eval) (hi.map a.eval) ((some m).map a.eval)).run P w=.ok (0,0,0) w:=by
 have hh:=mO hr h2;have hm:=mO hr h3;have rT:lo=none:=by cases lo<;>simp_all
 subst rT;rcases hh with⟨_,h⟩|⟨k,hk,_⟩
 .cases h
 .rcases hm with⟨h,_⟩|⟨k',hk',_⟩
  .cases h
  .rw[hk,hk'];simp[Instr.sliceBounds,Instr.sliceBound,asIntOf]
theorem c8W{o:Oper}{t:TypeId}{x:Operand}{lo hi mx:Option Operand}(ho:o.op=.slice t x lo hi mx)(h:a7z P G t x lo hi mx st=some out):rL P G o st out:=by
 unfold a7z at h;split at h
 .rename_i s hu hx;simp only[f7V,f7G]at h;obtain⟨hh,h1,l,h2,rfl⟩:=h;refine bJ λbase R μ a w hr=>?_;have hb:=a7D (P:=P) (w:=w) false s.length s.length l hh _ _ (f7X _) (mO hr h1) (mO hr h2);refine⟨.string ⟨((s.take hh).drop l).toArray⟩,?_,.d _ _ (.str _),trivial⟩;simp[execOp,ho,hr.a8R hx,run_sliceAt_string (P:=P) w t _ _ _ _ hu,Instr.slice,run_underlying hu,a3e,hb.1,c1Y]
 .rename_i e es hu hx;split at h
  .rename_i hc;simp only[f7V,f7G]at h;obtain⟨hh,h1,l,h2,rfl⟩:=h;refine bJ λbase R μ a w hr=>?_;have hv:=hr.kK hx;obtain⟨ao,cap,he,b6F,_⟩:=hv.a0z;obtain⟨hb,hlh,hhl⟩:=a7D (P:=P) (w:=w) true es.length cap l hh _ _ b6F (mO hr h1) (mO hr h2);rw[he]at hv;refine⟨_,?_,.d _ _ (hv.sub l hh (P.cellsOf e) hlh hhl b6F (λc yU=>by simpa using f7K.1 hc.2 c yU)),trivial⟩;simp only[execOp,ho,Sem.run_bind,he,vO hu,Option.map_none,hb,Result.andThen_ok,tZ (gZ hc.1) w,Sem.run_pure]
  .cases h
 .rename_i e hu hx;split at h
  .rename_i hc;simp only[f7V,f7G]at h;obtain⟨hh,h1,l,h2,rfl⟩:=h;refine bJ λbase R μ a w hr=>?_;obtain⟨ao,he⟩:=(hr.kK hx).jQ;obtain⟨hb,hlh,hhl⟩:=a7D (P:=P) (w:=w) true 0 0 l hh _ _ (f7X _) (mO hr h1) (mO hr h2);have h0:hh=0:=by omega
   have h0':l=0:=by omega
   subst h0 h0';refine⟨.slice ao 0 0,?_,.d _ _ (.aF _),trivial⟩;simp[execOp,ho,he,vO hu,hb,tZ (gZ hc) w]
  .cases h
 .rename_i e es m hu hx;split at h
  .rename_i hc;simp only[f7N]at h;subst h;refine bJ λbase R μ a w hr=>?_;obtain⟨ao,cap,he,_⟩:=(hr.kK hx).a0z;have hb:=b1u hr es.length cap hc.2.1 hc.2.2.1 hc.2.2.2;refine⟨.slice ao 0 0,?_,.d _ _ (.aF _),trivial⟩;simp only[execOp,ho,Sem.run_bind,he,vO hu,hb,Result.andThen_ok,tZ (gZ hc.1) w,Sem.run_pure,if_true,Nat.sub_self]
  .cases h
 .rename_i e m hu hx;split at h
  .rename_i hc;simp only[f7N]at h;subst h;refine bJ λbase R μ a w hr=>?_;obtain⟨ao,he⟩:=(hr.kK hx).jQ;have hb:=b1u hr 0 0 hc.2.1 hc.2.2.1 hc.2.2.2;refine⟨.slice ao 0 0,?_,.d _ _ (.aF _),trivial⟩;simp only[execOp,ho,Sem.run_bind,he,vO hu,hb,Result.andThen_ok,tZ (gZ hc.1) w,Sem.run_pure,if_true,Nat.sub_self]
  .cases h
 .cases h
theorem qA{d:TypeDesc}{p q:D}{u v:Value}{r:Bool}(hu:V R w u p)(hv:V R w v q)(hf:rR d p=true)(h:a0r p q=some r):Instr.sameNow d u v=some r:=by
 unfold a0r at h;split at h
 .obtain rfl:=hu.sW;obtain rfl:=hv.sW;split at h<;>simp at h;rename_i wM;subst wM h;cases d<;>simp[rR]at hf;simp[Instr.sameNow]
 .obtain rfl:=hu.oP;obtain rfl:=hv.oP;simp at h;subst h;cases d<;>simp[rR]at hf;simp[Instr.sameNow,c7H]
 .obtain rfl:=hu.vK;obtain rfl:=hv.vK;simp at h;subst h;cases d<;>simp[rR]at hf;simp[Instr.sameNow]
 .cases h
def tR(R:Nat->Nat->Prop)(w:World)(l:List MapEntry)(es:List (D×D)):Prop:=l.length=es.length/\∀(i:Nat) (e:MapEntry) (k v:D),l[i]? =some e->es[i]? =some (k,v)->V R w e.key k/\V R w e.val v
theorem tR.a4K{oZ:Array MapEntry}{es:List (D×D)}(h1:oZ.size=es.length)(h2:∀(i:Nat) (k v:D),es[i]? =some (k,v)->V R w ((oZ.getD i default).key) k/\V R w ((oZ.getD i default).val) v):tR R w oZ.toList es:=
 ⟨by simpa using h1,λi e k v he hk=>by
  have:=h2 i k v hk;have hg:oZ.getD i default=e:=by
   have:oZ[i]? =some e:=by simpa using he
   simp[f7J,this]
  rwa[hg]at this⟩
theorem tR.tail{e:MapEntry}{l:List MapEntry}{x:D×D}{es:List (D×D)}(h:tR R w (e::l) (x::es)):tR R w l es:=
 ⟨by simpa using h.1,λi e' k v he hk=>h.2 (i+1) e' k v (by simpa using he) (by simpa using hk)⟩
theorem b3D{d:TypeDesc}{k:D}{u:Value}(hu:V R w u k)(hf:rR d k=true):∀(l:List MapEntry) (es:List (D×D)) (n:Nat) (r:Option D),tR R w l es->findKeyD k es=some r->
  (r=none/\Instr.findNow d u l n=some none)\/∃(i:Nat) (e:MapEntry) (k' v:D),r=some v/\Instr.findNow d u l n=some (some (n+i,e.val))/\l[i]? =some e/\es[i]? =some (k',v)
 |[],[],n,r,_,h=>by simp[findKeyD]at h;subst h;exact .inl ⟨rfl,rfl⟩
 |[],_::_,_,_,he,_=>by simp[tR]at he
 |_::_,[],_,_,he,_=>by simp[tR]at he
 |e::l,(k',v')::es,n,r,he,h=>by
  have h0:=he.2 0 e k' v' rfl rfl;simp only[findKeyD]at h;split at h
  .rename_i hq;simp at h;subst h;exact .inr ⟨0,e,k',v',rfl,by simp[Instr.findNow,qA hu h0.1 hf hq],rfl,rfl⟩
  .rename_i hq;rcases b3D hu hf l es (n+1) r he.tail h with⟨h1,h2⟩|⟨i,e',k1,v1,h1,h2,h3,h4⟩
   .exact .inl ⟨h1,by simp[Instr.findNow,qA hu h0.1 hf hq,h2]⟩
   .exact .inr ⟨i+1,e',k1,v1,h1,by simp[Instr.findNow,qA hu h0.1 hf hq,h2];omega,by simpa using h3,by simpa using h4⟩
  .cases h
theorem a7E{t k e:TypeId}(h:mapOf P t=some (k,e)):P.underlying t=some (.map k e)/\∃d,P.underlying k=some d/\pZ d=true:=by
 unfold mapOf at h;split at h
 .rename_i k' e' hu;split at h
  .rename_i d hd;split at h<;>simp at h;rename_i hs;obtain⟨rfl,rfl⟩:=h;exact⟨hu,d,hd,hs⟩
  .cases h
 .cases h
theorem jE{k:TypeId}{d:TypeDesc}(hd:P.underlying k=some d)(hs:pZ d=true)(em:Bool)(n:Nat)(v:Value):(Instr.checkKey em (n+1) k v).run P w=.ok () w:=by unfold Instr.checkKey;simp only[Sem.run_bind,run_underlying hd,Result.andThen_ok];cases d<;>simp[pZ]at hs<;>rfl
theorem a3f{k:TypeId}{d:TypeDesc}{x:D}(hd:P.underlying k=some d)(h:sV P k x=true):rR d x=true:=by simpa[sV,hd]using h
theorem pI{k:TypeId}{d:TypeDesc}(hd:P.underlying k=some d){u:Value}{l:List MapEntry}{r:Option (Nat×Value)}(h:Instr.findNow d u l 0=some r):(Instr.findKey k u l).run P w=.ok r w:=by simp[Instr.findKey,run_underlying hd,h]
theorem c5C{o:Oper}{t:TypeId}{m k:Operand}{ok:Bool}(ho:o.op=.lookup t m k ok)(h:a6h P G t m k ok st=some out):rL P G o st out:=by
 unfold a6h at h;split at h
 .rename_i kt e key kk hm hx hk;split at h
  .rename_i es z hg hz hf;simp only[f7G]at h;obtain⟨r,e7b,rfl⟩:=h;obtain⟨hu,d,hd,hs⟩:=a7E hm;refine bJ λbase R μ a w hr=>?_;obtain⟨_,_,oZ,clock,hh,jG,hev⟩:=hr.gY key _ hg;have hE:=tR.a4K jG hev;have hzv:∃zv,(zeroValue e).run P w=.ok zv w/\V R w zv z:=by
    unfold c1N at hz;cases hi:P.info? e with
    |none=>simp[hi]at hz
    |some i=>
     cases hz0:i.zero with
     |none=>simp[hi,hz0]at hz
     |some zv=>simp[hi,hz0]at hz;have ht:=b3w (R:=R) (μ:=μ) (w:=w) zv;unfold isD at hz;split at hz<;>simp at hz;rename_i q hq;subst hz;rw[hq]at ht;exact⟨zv,by simp[zeroValue,typeInfo,hi,hz0],ht.a7B⟩
   obtain⟨zv,hz1,hz2⟩:=hzv;have fin:∀(v:Value) (b:Bool),V R w v (r.getD z)->r.isSome=b->∃x,(if ok then Value.tuple #[v,.bool b] else v)=x/\TV R μ w x (if ok then .bY [r.getD z,.bool r.isSome] else .d (r.getD z)):=λv b hv hb=>by
    refine⟨_,rfl,?_⟩;cases ok
    .exact .d _ _ hv
    .refine .bY _ _ rfl (λi d hi=>?_)
     match i,hi with
     |0,hi=>simp at hi;subst hi;exact hv
     |1,hi=>simp at hi;subst hi;subst hb;exact .bool _
     |n+2,hi=>simp at hi
   rcases b3D (hr.kK hk) (a3f hd hf) oZ.toList es 0 r hE e7b with⟨rfl,h1⟩|⟨i,en,k',v,rfl,h1,h2,h3⟩
   .obtain⟨x,hx1,wN⟩:=fin zv false hz2 rfl;refine⟨x,?_,wN,trivial⟩;simp[execOp,ho,Instr.lookup,run_underlying hu,hr.a7C hx,uK (P:=P) hh,jE (P:=P) (w:=w) hd hs,pI (P:=P) (w:=w) hd h1,hz1, <- hx1]
   .obtain⟨x,hx1,wN⟩:=fin en.val true (hE.2 i en k' v h2 h3).2 rfl;refine⟨x,?_,wN,trivial⟩;simp[execOp,ho,Instr.lookup,run_underlying hu,hr.a7C hx,uK (P:=P) hh,jE (P:=P) (w:=w) hd hs,pI (P:=P) (w:=w) hd h1, <- hx1]
  .cases h
 .cases h
end
end Go.VM
namespace Go.VM
open Go Go.RowKit
section
variable {P:Program} {G:GT} {st:St} {out:Out}
variable {base:cT} {R:Nat->Nat->Prop} {μ:Nat->Nat} {a:Act} {w w':World}
theorem Rel.b9w(h:Rel P G base R μ st a w){k:Nat}{o:aW}(hk:getKey k st.H=some o)(hos:w'.os=w.os)(htp:w'.tape=w.tape)(a0B:w'.output=w.output)(jG:w'.heap.size=w.heap.size)(hb:∀j,j≠μ k->w'.heap[j]? =w.heap[j]?):Step base R w R w':=by obtain⟨h1,h2,_⟩:=h.gY k o hk;exact⟨⟨hos,htp,a0B,by omega,λj hj=>hb j λe=>hj (e▸h1)⟩,λ_ _ h=>h,λ_ _ h h'=>absurd h h',λb off hr=>World.cell?_of_block (hb b (by rintro rfl;exact h2 off hr))⟩
theorem Rel.setObj(h:Rel P G base R μ st a w){k:Nat}{o o':aW}(hk:getKey k st.H=some o)(hos:w'.os=w.os)(htp:w'.tape=w.tape)(a0B:w'.output=w.output)(jG:w'.heap.size=w.heap.size)(hb:∀j,j≠μ k->w'.heap[j]? =w.heap[j]?)(hob:eN R μ w' (μ k) o'){dV:List (TypeId×List Loc)}(a6J:∀c∈dV,∀k off,Loc.c k off∈c.2->∃o,getKey k st.H=some o)(kJ:∃vs,a0v P base R μ {st with H:=bP k o' st.H,own:=dV} a w' vs):
  Rel P G base R μ {st with H:=bP k o' st.H,own:=dV} a w'/\Step base R w R w':=by
 have hs:=h.b9w hk hos htp a0B jG hb;have hex:∀k' o1,getKey k' (bP k o' st.H)=some o1->∃o2,getKey k' st.H=some o2:=λk' o1 h1=>by
  rw[eX]at h1;by_cases wM:k=k'
  .subst wM;exact⟨o,hk⟩
  .rw[if_neg wM]at h1;exact⟨o1,h1⟩
 refine⟨⟨h.defers,h.size,λi v d hv hd=>(h.tmps i v d hv hd).bI hs,λk' o1 h1=>?_,λk1 k2 o1 o2 h1 h2 he=>?_,λc hc k' off hl=>?_,kJ,h.tQ.bI hs,λb off hr=>by rw[jG];exact h.pH b off hr,by rw[jG];exact h.base,h.pass⟩,hs⟩
 .simp only at h1;rw[eX]at h1;by_cases wM:k=k'
  .subst wM;rw[if_pos rfl]at h1;cases h1;obtain⟨q1,q2,_⟩:=h.gY k o hk;exact⟨q1,q2,hob⟩
  .rw[if_neg wM]at h1;obtain⟨q1,q2,q3⟩:=h.gY k' o1 h1;exact⟨q1,q2,q3.bI hs (hb _ λhe=>wM (h.inj k k' o o1 hk h1 he.symm))⟩
 .obtain⟨o3,h3⟩:=hex k1 o1 h1;obtain⟨o4,h4⟩:=hex k2 o2 h2;exact h.inj k1 k2 o3 o4 h3 h4 he
 .obtain⟨o1,h1⟩:=a6J c hc k' off hl;simp only;rw[eX];split
  .exact⟨_,rfl⟩
  .exact⟨o1,h1⟩
theorem a0v.d7c(h:Rel P G base R μ st a w){k:Nat}{o o':aW}(hk:getKey k st.H=some o)(hb:∀j,j≠μ k->w'.heap[j]? =w.heap[j]?)(sG:∀off,w'.cell? ⟨μ k,off,none⟩=none):
  ∃vs,a0v P base R μ {st with H:=bP k o' st.H} a w' vs:=by
 obtain⟨vs,hl,h1,yV⟩:=h.own;refine⟨vs,hl,λi c v hc hv=>?_,yV⟩;have ho:=h1 i c v hc hv;have a2y:∀k' o1,getKey k' (bP k o' st.H)=some o1->∃o2,getKey k' st.H=some o2:=λk' o1 h1=>by
  rw[eX]at h1;by_cases wM:k=k'
  .subst wM;exact⟨o,hk⟩
  .rw[if_neg wM]at h1;exact⟨o1,h1⟩
 refine⟨λl hl u hu=>?_,ho.own.c7D (λg hg=>hb g λhe=>ho.keys k o hk (by rw[hg,he])) (λ_ _ _ h=>h),λk' o1 h1=>by obtain⟨o2,h2⟩:=a2y k' o1 h1;exact ho.keys k' o2 h2⟩;cases l with
 |t i=>exact ho.dI _ hl u hu
 |c k' off=>
  by_cases wM:k'=k
  .subst wM;simp only[cB]at hu;rw[sG]at hu;cases hu
  .obtain⟨o1,h1'⟩:=h.dI c (f7M hc) k' off hl;refine ho.dI _ hl u ?_;rw[<-hu];exact(World.cell?_of_block (hb _ λhe=>wM (h.inj k' k o1 o h1' hk he))).symm
theorem b6H{α:Type}(z:List α)(off:Nat)(vs:List α)(h:off+vs.length<=z.length)(k:Nat):(overwrite z off vs)[k]? =if k<off then z[k]? else if k<off+vs.length then vs[k-off]? else z[k]? :=by
 have a3d:min off z.length=off:=by omega
 simp only[overwrite,List.append_assoc];by_cases h1:k<off
 .rw[if_pos h1,f7S (by simp;omega),List.getElem?_take,if_pos h1]
 .rw[if_neg h1,f7P (by simp;omega)];simp only[List.length_take,a3d];by_cases h2:k<off+vs.length
  .rw[if_pos h2,f7S (by omega)]
  .rw[if_neg h2,f7P (by omega),f8a];congr 1;omega
theorem b6I{α:Type}(z:List α)(off:Nat)(vs:List α)(h:off+vs.length<=z.length):(overwrite z off vs).length=z.length:=by simp only[overwrite,List.length_append,List.length_take,List.length_drop];omega
theorem a3g(z:List Value)(off:Nat)(vs:List Value)(h:off+vs.length<=z.length)(k:Nat):(z.take off++vs++z.drop (off+vs.length))[k]? =if k<off then z[k]? else if k<off+vs.length then vs[k-off]? else z[k]? :=by
 have a3d:min off z.length=off:=by omega
 simp only[List.append_assoc];by_cases h1:k<off
 .rw[if_pos h1,f7S (by simp;omega),List.getElem?_take,if_pos h1]
 .rw[if_neg h1,f7P (by simp;omega)];simp only[List.length_take,a3d];by_cases h2:k<off+vs.length
  .rw[if_pos h2,f7S (by omega)]
  .rw[if_neg h2,f7P (by omega),f8a];congr 1;omega
theorem setRow_os(w:World)(g:Nat)(c:Array Value):(w.setRow g c).os=w.os/\(w.setRow g c).tape=w.tape/\(w.setRow g c).output=w.output/\(w.setRow g c).heap.size=w.heap.size:=⟨rfl,rfl,rfl,by simp[World.setRow]⟩
theorem d1M{v:Value}{d:DV}{ys:List DV}(h:TV R μ w v d)(hc:uE d=some ys)(h1:d.cell=true):ys.length=1/\v.cells=#[v]:=by
 cases h with
 |d v x h=>simp only[uE,f7N]at hc;subst hc;obtain⟨q1,q2⟩:=h.c8S (by simpa[DV.cell]using h1);exact⟨by rw[q2];rfl,q1⟩
 |undef v=>cases hc
 |it k=>cases hc
 |bY vs ds h1 h2=>cases hc
 |ptr k off=>cases hc;exact⟨rfl,rfl⟩
 |ep b o cs h=>cases hc;exact⟨rfl,rfl⟩
 |mp k=>cases hc;exact⟨rfl,rfl⟩
 |fn f=>cases hc;exact⟨rfl,rfl⟩
 |oY b=>cases hc;exact⟨rfl,rfl⟩
 |yC T=>cases hc
 |clo f vs cs h1 h2=>cases hc;exact⟨rfl,rfl⟩
 |ag vs cs q1 q2 q3 q4=>cases h1
theorem a6j{o:Oper}{t:TypeId}{ad x:Operand}(ho:o.op=.store t ad x)(h:uG P G t ad x st=some out):rL P G o st out:=by
 unfold uG at h;split at h
 .rename_i k off ys ha hx;split at h
  .rename_i cs hk;split at h
   .rename_i hc;obtain⟨hlen,eF,hle⟩:=hc;simp only[f7N]at h;subst h;intro base R μ a w hr;obtain⟨hbk,hnR,cur,T,hh,jG,d7d,b3C⟩:=hr.gY k _ hk;have hv:=hr.eval x;obtain⟨rK,hvc⟩:=a6i hv hx;have kD:∀u∈(a.eval x).cells.toList,u.oneCell'=true:=λu hu=>by
     obtain⟨i,hi⟩:=f7Y hu;have tY:i<ys.length:=by rw[<-rK];simpa using (f7I.1 hi).1
     obtain⟨_,_,h2⟩:=hvc i ys[i] (by simp[tY]);have:(a.eval x).cells.getD i undef=u:=by
      have:(a.eval x).cells[i]? =some u:=by simpa using hi
      simp[f7J,this]
     rw[this]at h2;exact h2
    have mD:=run_storeCells_at P (μ k) off T (a.eval x).cells.toList 0 cur w hh (by rw[jG];simp[rK];omega) kD;simp only[Nat.add_zero]at mD;have cZ:(execOp a.eval o).run P w=.ok .skip (w.setRow (μ k) (cur.toList.take off++(a.eval x).cells.toList++cur.toList.drop (off+(a.eval x).cells.toList.length)).toArray):=by
     have hnn: ¬((a.eval x).cells.size≠P.cellsOf t):=by rw[rK,hlen];simp
     simp only[execOp,ho,Sem.run_bind,hr.eC ha,Instr.storeAt,Instr.sureAddr,storeVar,Sem.run_pure,Result.andThen_ok,tZ (gZ eF) w,if_neg hnn,mD]
    generalize hw':w.setRow (μ k) (cur.toList.take off++(a.eval x).cells.toList++cur.toList.drop (off+(a.eval x).cells.toList.length)).toArray=w' at cZ;have aE:μ k<w.heap.size:=(f7Q.1 hh).1;have b7J:w'.heap[μ k]? =some (.cells (cur.toList.take off++(a.eval x).cells.toList++cur.toList.drop (off+(a.eval x).cells.toList.length)).toArray T (0,0)):=by rw[<-hw'];exact setRow_heap w (μ k) cur _ T _ hh
    have a0C:∀j,j≠μ k->w'.heap[j]? =w.heap[j]? :=λj hj=>by rw[<-hw'];exact setRow_other w (μ k) j _ hj
    obtain⟨e1,e2,e3,e4⟩:=setRow_os w (μ k) (cur.toList.take off++(a.eval x).cells.toList++cur.toList.drop (off+(a.eval x).cells.toList.length)).toArray;rw[hw']at e1 e2 e3 e4;have d1N:=hr.b9w hk e1 e2 e3 e4 a0C;have oI:(a.eval x).cells.toList.length=ys.length:=by simpa using rK
    have jR:off+(a.eval x).cells.toList.length<=cur.toList.length:=by rw[oI];simp[jG];omega
    have a4t:∀i,w'.cell? ⟨μ k,i,none⟩=if i<off then cur[i]? else if i<off+ys.length then(a.eval x).cells[i-off]? else cur[i]? :=λi=>by rw[cell_of_row w' _ _ _ T (0,0) b7J,List.getElem?_toArray,a3g _ _ _ jR,oI];simp
    have hob:eN R μ w' (μ k) (.cells (overwrite cs off ys)):=by
     refine⟨_,T,b7J,?_,λi d hi=>?_,b3C.overwrite (a8P hx) off⟩
     .rw[b6I _ _ _ hle, <- jG];simp only[List.size_toArray,List.length_append,List.length_take,List.length_drop];rw[oI];simp;omega
     .rw[b6H _ _ _ hle]at hi;rw[f7J,List.getElem?_toArray,a3g _ _ _ jR,oI];by_cases h1:i<off
      .rw[if_pos h1]at hi|-;have:=d7d i d hi;rw[f7J]at this;exact⟨this.1,by simpa using this.2.bI d1N⟩
      .rw[if_neg h1]at hi|-;by_cases h2:i<off+ys.length
       .rw[if_pos h2]at hi|-;have:=hvc _ d hi;rw[f7J]at this;exact⟨this.1,by simpa using this.2.1.bI d1N⟩
       .rw[if_neg h2]at hi|-;have:=d7d i d hi;rw[f7J]at this;exact⟨this.1,by simpa using this.2.bI d1N⟩
    have d1O:∀k' o1,getKey k' (bP k (.cells (overwrite cs off ys)) st.H)=some o1->∃o2,getKey k' st.H=some o2:=λk' o1 h1=>by
     rw[eX]at h1;by_cases wM:k=k'
     .subst wM;exact⟨_,hk⟩
     .rw[if_neg wM]at h1;exact⟨o1,h1⟩
    have e0s:(∀c∈(if (st.eval G x).cell then dU (.c k off) (sC (st.eval G x) (uF x)) st.own else dropKey k st.own),∀k' a4M,Loc.c k' a4M∈c.2->∃o,getKey k' st.H=some o)/\
      ∃vs,a0v P base R μ {st with H:=bP k (.cells (overwrite cs off ys)) st.H,own:=if (st.eval G x).cell then dU (.c k off) (sC (st.eval G x) (uF x)) st.own else dropKey k st.own} a w' vs:=by
     obtain⟨vs,e2C⟩:=hr.own;have hsl:∀e u,pG P base R w e u->(∀k o,getKey k st.H=some o->bF u≠some (μ k))->pG P base R w' e u:=λe u hu hm=>hu.c7D (λg hg=>a0C g λhe=>hm k _ hk (by rw[hg,he])) (λ_ _ _ h=>h)
     by_cases hy:(st.eval G x).cell=true
     .simp only[hy,if_true];have hyc:ys.length=1/\(a.eval x).cells=#[a.eval x]:=d1M hv hx hy;have c8Y:sC (st.eval G x) (uF x)=.no\/∃s,sC (st.eval G x) (uF x)=.al (.t s):=by
       unfold sC;split
       .cases x with
        |tmp s=>exact .inr ⟨s,rfl⟩
        |_=>exact .inl rfl
       .exact .inl rfl
      refine⟨λc hc k' a4M hl=>?_,?_⟩
      .obtain⟨i,hi⟩:=f7Y hc;rcases c8Y with ha'|⟨s,ha'⟩
       .rw[ha']at hi;obtain⟨c',yU,_,hm⟩:=pV hi;exact hr.dI c' (f7M yU) k' a4M ((hm _).1 hl).1
       .rw[ha']at hi;simp only[dU,reduceCtorEq,if_false]at hi;obtain⟨c',yU,_,hm⟩:=vJ hi;rcases hm _ hl with hx'|⟨hx',_⟩
        .obtain⟨c0,wL,_,hm0⟩:=pV yU;exact hr.dI c0 (f7M wL) k' a4M ((hm0 _).1 hx').1
        .cases hx';exact⟨_,hk⟩
      .refine a0v.act (a':=a) (w':=w') (dst:=.c k off) (v:=a.eval x) (act:=sC (st.eval G x) (uF x)) hr.own rfl d1O (λc hc l hl f0E=>?_) (λu hu=>?_) hsl (hr.sC x)
       .cases l with
        |t i=>rfl
        |c k' a4M=>
         obtain⟨o1,h1⟩:=hr.dI c hc k' a4M hl;by_cases wM:k'=k
         .subst wM;have c8Z:a4M≠off:=λhe=>f0E (by rw[he]);simp only[cB];rw[a4t,cell_of_row w _ _ cur T (0,0) hh];by_cases q1:a4M<off
          .rw[if_pos q1]
          .rw[if_neg q1,if_neg (by rw[hyc.1];omega)]
         .exact World.cell?_of_block (a0C _ λhe=>wM (hr.inj k' k o1 _ h1 hk he))
       .simp only[cB]at hu;rw[a4t,if_neg (by omega),if_pos (by rw[hyc.1];omega),hyc.2]at hu;simp at hu;exact hu.symm
     .simp only[hy];refine⟨λc hc k' a4M hl=>?_,vs,by simpa[dropKey]using e2C.len,λi c u hc hu=>?_,e2C.apart⟩
      .obtain⟨i,hi⟩:=f7Y hc;obtain⟨c',yU,_,hm⟩:=yG hi;exact hr.dI c' (f7M yU) k' a4M ((hm _).1 hl).1
      .obtain⟨c',yU,he,hm⟩:=yG hc;have uI:=e2C.one i c' u yU hu;refine⟨λl hl u' hu'=>?_,by rw[he];exact hsl _ u uI.own uI.keys,λk' o1 h1=>by obtain⟨o2,h2⟩:=d1O k' o1 h1;exact uI.keys k' o2 h2⟩;have hx':=(hm l).1 hl;refine uI.dI l hx'.1 u' ?_;cases l with
       |t i=>exact hu'
       |c k' a4M=>
        have wM:k'≠k:=by simpa[Loc.yE]using hx'.2
        obtain⟨o1,h1⟩:=hr.dI c' (f7M yU) k' a4M hx'.1;rw[<-hu'];exact(World.cell?_of_block (a0C _ λhe=>wM (hr.inj k' k o1 _ h1 hk he))).symm
    obtain⟨kU,hs⟩:=hr.setObj hk e1 e2 e3 e4 a0C hob e0s.1 e0s.2;exact⟨Go.undef,w',R,μ,.inr ⟨cZ,rfl⟩,kU,.bY #[] [] rfl (by simp),trivial,hs⟩
   .cases h
  .cases h
 .cases h
end
end Go.VM
namespace Go.VM
open Go Go.RowKit
section
variable {P:Program} {G:GT} {st:St} {out:Out}
variable {base:cT} {R:Nat->Nat->Prop} {μ:Nat->Nat} {a:Act} {w w':World}
theorem b2Z{α:Type}{c:Prop}[Decidable c]{x y:α}(h:(if c then some x else none)=some y):c/\x=y:=by
 split at h
 .rename_i hc;exact⟨hc,by simpa using h⟩
 .cases h
theorem a4N{o:Oper}{d:Nat}{cs:List DV}{e:TypeId}(_hd:o.dst=some d)(h:∀base R μ a w,Rel P G base R μ st a w->∃vs:Array Value,(execOp a.eval o).run P w=.ok (.value (.pointer (some ⟨w.heap.size,0,none⟩))) (w.alloc (.cells vs e))/\vs.size=cs.length/\
  ∀(i:Nat) (x:DV),cs[i]? =some x->x.cell=true/\TV R μ w (vs.getD i undef) x)(hd':d<100000)(hm:∀x∈cs,mentions d x=false)(b3C:a3a e cs):rL P G o st ⟨.ptr d 0,.no,eL st d (.cells cs)⟩:=by
 intro base R μ a w hr;obtain⟨vs,h1,h2,h3⟩:=h base R μ a w hr;have hs:=Step.alloc (base:=base) R w (.cells vs e) hr.base hr.pH;obtain⟨kU,mD⟩:=hr.newObj d hd' (.cells cs) (.cells vs e) ⟨vs,e,heap_alloc_new w _,h2,λi x hi=>⟨(h3 i x hi).1,((h3 i x hi).2.bI hs).e0o (key:=d) (λk hk=>by simp[hk]) (hm x (f7M hi))⟩,b3C⟩;refine⟨_,_,R,_,.inl h1,kU,?_,trivial,mD⟩;have:=TV.ptr (R:=R) (μ:=λk=>if k=d then w.heap.size else μ k) (w:=w.alloc (.cells vs e)) d 0;simpa using this
theorem c5D{cs:List DV}(h:b3r cs≠ .cells cs):∃T,cs=[.yC T,.d .aF]/\b3r cs=.bld T false []:=by
 unfold b3r at h|-;split at h
 .exact⟨_,rfl,rfl⟩
 .exact absurd rfl h
theorem c5E{t T:TypeId}{v:Value}(h:a1u t v=.yC T):v=.pointer none/\T=t:=by
 unfold a1u at h;split at h
 .cases h
 .split at h
  .rename_i hn;cases h;exact⟨b7H hn,rfl⟩
  .cases h
theorem c5F{t:TypeId}{v:Value}(h:a1u t v=.d .aF):v=.slice none 0 0:=by
 unfold a1u at h;split at h
 .rename_i x hx;cases h;unfold yD at hx;split at hx<;>simp at hx
  rfl
 .split at h<;>cases h
theorem c9a{o:Oper}{d:Nat}{cs:List DV}{e:TypeId}{z:Value}(hd:o.dst=some d)(hd':d<100000)(ho:o.op=.alloc e)(hz1:(P.info? e).bind (·.zero)=some z)(hz2:z.cells.toList.map (a1u e)=cs)(hzo: ¬b3r cs=.cells cs):
  rL P G o st ⟨.ptr d 0,.no,eL st d (b3r cs)⟩:=by
 obtain⟨T,qO,hT⟩:=c5D hzo;rw[hT];rw[qO]at hz2;obtain⟨v0,v1,hzz⟩:∃v0 v1,z.cells=#[v0,v1]:=by
  have hl:=congrArg List.length hz2
  match hq:z.cells,hl with
  |⟨[p,q]⟩,_=>exact⟨p,q,rfl⟩
 rw[hzz]at hz2;simp only[List.map_cons,List.map_nil,List.cons.injEq,and_true]at hz2;obtain⟨rfl,rfl⟩:=c5E hz2.1;have h1:=c5F hz2.2;subst h1;intro base R μ a w hr;have hs:=Step.alloc (base:=base) R w (.cells #[.pointer none,.slice none 0 0] T) hr.base hr.pH;obtain⟨kU,mD⟩:=hr.newObj d hd' (.bld T false []) (.cells #[.pointer none,.slice none 0 0] T) ⟨_,_,_,heap_alloc_new w _,λ_=>⟨rfl,rfl⟩,rfl,.emp _ _,.inl rfl⟩;refine⟨.pointer (some ⟨w.heap.size,0,none⟩),_,R,_,.inl ?_,kU,?_,trivial,mD⟩
 .obtain⟨i',hi1,hi2⟩:=f7V.1 hz1;simp[execOp,ho,Instr.alloc,zeroValue,typeInfo,hi1,hi2,newVar,newRow,hzz]
 .have:=TV.ptr (R:=R) (μ:=λk=>if k=d then w.heap.size else μ k) (w:=w.alloc (.cells #[.pointer none,.slice none 0 0] T)) d 0;simpa using this
theorem b7K{o:Oper}{e:TypeId}(ho:o.op=.alloc e)(h:b0v P o.dst e st=some out):rL P G o st out:=by
 unfold b0v at h;split at h
 .rename_i d cs hd hz;obtain⟨hd',h⟩:=b2Z h;subst h;refine a4N (e:=e) hd (λbase R μ a w hr=>?_) hd' (λx hx=>by obtain⟨y,_,rfl⟩:=List.mem_map.1 hx;rfl) (λT' hx=>by obtain⟨y,_,he⟩:=List.mem_map.1 hx;cases he);obtain⟨zv,h1,h2,h3⟩:=b3z (R:=R) hz w;refine⟨zv.cells,by simp[execOp,ho,Instr.alloc,h1,newVar,newRow],by simp[h2],λi x hi=>?_⟩;rw[f7R]at hi;obtain⟨y,hy,rfl⟩:=f7G.1 hi;exact⟨(h3 i y hy).1,.d _ _ (h3 i y hy).2⟩
 .rename_i d hd hz;split at h
  .rename_i cs hc;obtain⟨hd',h⟩:=b2Z h;subst h;have oV:∀v:Value,(a1u e v).cell=true/\mentions d (a1u e v)=false:=λv=>by
    unfold a1u;split
    .rename_i x hx;exact⟨(wV (R:=λ_ _=>True) (w:=default) hx).2,rfl⟩
    .split<;>exact⟨rfl,rfl⟩
   unfold c1L at hc;obtain⟨z,hz1,hz2⟩:=f7G.1 hc;by_cases hzo:b3r cs=.cells cs
   case neg=>exact c9a hd hd' ho hz1 hz2 hzo
   rw[hzo];refine a4N (e:=e) hd (λbase R μ a w hr=>?_) hd' (λx hx=>by rw[<-hz2]at hx;obtain⟨y,_,rfl⟩:=List.mem_map.1 hx;exact(oV y).2) (λT' hx=>by
    rw[<-hz2]at hx;obtain⟨y,_,he⟩:=List.mem_map.1 hx;unfold a1u at he;split at he
    .cases he
    .split at he
     .cases he;rfl
     .cases he)
   refine⟨z.cells,?_,by rw[<-hz2];simp,λi x hi=>?_⟩
   .obtain⟨i',hi1,hi2⟩:=f7V.1 hz1;simp[execOp,ho,Instr.alloc,zeroValue,typeInfo,hi1,hi2,newVar,newRow]
   .rw[<-hz2,f7R]at hi;obtain⟨y,hy,rfl⟩:=f7G.1 hi;refine⟨(oV y).1,?_⟩;have:z.cells.getD i undef=y:=by
     have:z.cells[i]? =some y:=by simpa using hy
     simp[f7J,this]
    rw[this];unfold a1u;split
    .rename_i u hu;exact .d _ _ (wV hu).1
    .split
     .rename_i hn;rw[b7H hn];exact .yC _
     .exact .undef _
  .cases h
 .cases h
theorem d7e{o:Oper}{e:TypeId}{x:Operand}(ho:o.op=.box e x)(h:d6T G o.dst x st=some out):rL P G o st out:=by
 unfold d6T at h;split at h
 .rename_i d cs hd hx;split at h
  .rename_i hm;simp only[f7N]at h;subst h;simp only[f7H,decide_eq_true_eq]at hm;obtain⟨hd',hm⟩:=hm;refine a4N (e:=e) hd (λbase R μ a w hr=>?_) hd' (λx hx=>by have:=f7K.1 hm x hx;simpa using this) (a3a.c1O (a8P hx));obtain⟨h1,h2⟩:=a6i (hr.eval x) hx;exact⟨(a.eval x).cells,by simp[execOp,ho,Instr.box,newVar,newRow],h1,λi c hi=>⟨(h2 i c hi).1,(h2 i c hi).2.1⟩⟩
  .cases h
 .cases h
theorem c1Z{o:Oper}{t:TypeId}{r:Option Operand}(ho:o.op=.makeMap t r)(h:a8N o.dst r st=some out):rL P G o st out:=by
 unfold a8N at h;split at h
 .rename_i d hd;obtain⟨hd',h⟩:=b2Z h;subst h;intro base R μ a w hr;obtain⟨kU,mD⟩:=hr.newObj d hd' (.map []) (.map #[] 0) ⟨#[],0,heap_alloc_new w _,rfl,by simp⟩;refine⟨.map (some w.heap.size),_,R,_,.inl (by simp[execOp,ho,Instr.makeMap]),kU,?_,trivial,mD⟩;have:=TV.mp (R:=R) (μ:=λk=>if k=d then w.heap.size else μ k) (w:=w.alloc (.map #[] 0)) d;simpa using this
 .cases h
theorem c9b{o:Oper}{t:TypeId}{x:Operand}(ho:o.op=.range t x)(h:b9r P G o.dst t x st=some out):rL P G o st out:=by
 unfold b9r at h;split at h
 .rename_i d s hd hu hx;obtain⟨hd',h⟩:=b2Z h;subst h;intro base R μ a w hr;obtain⟨kU,mD⟩:=hr.newObj d hd' (.iter s 0) (.stringIter ⟨s.toArray⟩ 0) (heap_alloc_new w _);refine⟨.pointer (some ⟨w.heap.size,0,none⟩),_,R,_,.inl (by simp[execOp,ho,Instr.range,run_underlying hu,hr.a8R hx]),kU,?_,trivial,mD⟩;have:=TV.it (R:=R) (μ:=λk=>if k=d then w.heap.size else μ k) (w:=w.alloc (.stringIter ⟨s.toArray⟩ 0)) d;simpa using this
 .cases h
def qB(w:World)(b:Nat)(o:Obj):World:={w with heap:=w.heap.setIfInBounds b o}
theorem b1v{b:Nat}{o o':Obj}(h:w.heap[b]? =some o'):(qB w b o).heap[b]? =some o:=by have aE:b<w.heap.size:=(f7Q.1 h).1;simp[qB,aE]
theorem b9x{b j:Nat}(o:Obj)(h:j≠b):(qB w b o).heap[j]? =w.heap[j]? :=by simp[qB,Ne.symm h]
theorem Rel.qB(h:Rel P G base R μ st a w){k:Nat}{o o':aW}{ob old:Obj}(hk:getKey k st.H=some o)(hold:w.heap[μ k]? =some old)(hnc:∀c t f,ob≠ .cells c t f)(hob:∀w',Step base R w R w'->w'.heap[μ k]? =some ob->eN R μ w' (μ k) o'):
  Rel P G base R μ {st with H:=bP k o' st.H} a (qB w (μ k) ob)/\Step base R w R (Go.VM.qB w (μ k) ob):=by
 have jG:(Go.VM.qB w (μ k) ob).heap.size=w.heap.size:=by simp[Go.VM.qB]
 have hb:∀j,j≠μ k->(Go.VM.qB w (μ k) ob).heap[j]? =w.heap[j]? :=λj hj=>b9x ob hj;have hs:=h.b9w (w':=Go.VM.qB w (μ k) ob) hk rfl rfl rfl jG hb;refine h.setObj (w':=Go.VM.qB w (μ k) ob) hk rfl rfl rfl jG hb (hob _ hs (b1v hold)) h.dI (a0v.d7c h hk hb λoff=>?_);simp only[World.cell?,b1v (o:=ob) hold];cases ob<;>first|rfl|exact absurd rfl (hnc _ _ _)
theorem a0D{b:Nat}{old ob:Obj}(h:w.heap[b]? =some old)(hnc:∀c t f,old≠ .cells c t f):(Go.setObj b ob).run P w=.ok () (qB w b ob):=by cases old<;>first|exact absurd rfl (hnc _ _ _)|simp[Go.setObj,Sem.run,h,qB]
theorem b3E{b:Nat}{old:Obj}(h:w.heap[b]? =some old)(hnc:∀c t f,old≠ .cells c t f):(Go.getObj b).run P w=.ok old w:=by
 simp only[Go.getObj,Sem.run,h]
 try (cases old<;>first|rfl|exact absurd rfl (hnc _ _ _))
theorem d1P{o:Oper}{x:Operand}{b:Bool}(ho:o.op=.next x b)(h:c7C G x b st=some out):rL P G o st out:=by
 unfold c7C at h;split at h
 .rename_i k hx;split at h
  .rename_i s pos hk;split at h
   .rename_i aE;simp only[f7N]at h;subst h;intro base R μ a w hr;obtain⟨_,_,hh⟩:=hr.gY k _ hk
    change w.heap[μ k]? =_ at hh
    obtain⟨kU,mD⟩:=hr.qB (ob:=.stringIter ⟨s.toArray⟩ (pos+(Utf8.decode ⟨s.toArray⟩ pos).2)) (o':=.iter s (pos+(Utf8.decode ⟨s.toArray⟩ pos).2)) hk hh (by simp) (λw' _ h=>h);refine⟨.tuple #[.bool true,.int .i64 pos,.int .i32 (Utf8.decode ⟨s.toArray⟩ pos).1],_,R,μ,.inl ?_,kU,?_,trivial,mD⟩
    .simp[execOp,ho,hr.d1B hx,Instr.next,b3E (P:=P) hh (by simp),a3e,aE,a0D (P:=P) hh (by simp),goInt]
    .refine .bY _ _ rfl (λi d hi=>?_)
     match i,hi with
     |0,hi=>simp at hi;subst hi;exact .bool _
     |1,hi=>simp at hi;subst hi;exact .int _ _
     |2,hi=>simp at hi;subst hi;exact .int _ _
     |n+3,hi=>simp at hi
   .rename_i aE;simp only[f7N]at h;subst h;refine bJ λbase R μ a w hr=>?_;obtain⟨_,_,hh⟩:=hr.gY k _ hk
    change w.heap[μ k]? =_ at hh
    refine⟨.tuple #[.bool false],?_,?_,trivial⟩
    .simp[execOp,ho,hr.d1B hx,Instr.next,b3E (P:=P) hh (by simp),a3e,aE]
    .refine .bY _ _ rfl (λi d hi=>?_)
     match i,hi with
     |0,hi=>simp at hi;subst hi;exact .bool _
     |n+1,hi=>simp at hi
  .cases h
 .cases h
theorem c2a{p q:D}{u v:Value}(hu:V R w u p)(hv:V R w v q)(h:a0r p q=some true)(n:Nat):Instr.sameBits n v u=true:=by
 unfold a0r at h;split at h
 .obtain rfl:=hu.sW;obtain rfl:=hv.sW;split at h<;>simp at h;rename_i wM;subst wM h;cases n<;>simp[Instr.sameBits]
 .obtain rfl:=hu.oP;obtain rfl:=hv.oP;simp at h;subst h;cases n<;>simp[Instr.sameBits,c7H]
 .obtain rfl:=hu.vK;obtain rfl:=hv.vK;simp at h;subst h;cases n<;>simp[Instr.sameBits]
 .cases h
theorem b3F{d:TypeDesc}{k x:D}{u v:Value}(hu:V R w u k)(hx:V R w v x)(hf:rR d k=true):∀(l:List MapEntry) (es es':List (D×D)) (n:Nat),tR R w l es->a6d k x es=some es'->
  (Instr.findNow d u l n=some none/\∀born,tR R w (l++[⟨u,v,born⟩]) es')\/
  ∃(i:Nat) (e:MapEntry),Instr.findNow d u l n=some (some (n+i,e.val))/\l[i]? =some e/\Instr.sameBits 10000 e.key u=true/\tR R w (l.set i {e with key:=u,val:=v}) es'
 |[],[],es',n,_,h=>by
  simp[a6d]at h;subst h;refine .inl ⟨rfl,λborn=>⟨rfl,λi e k' v' he hk=>?_⟩⟩
  match i,he,hk with
  |0,he,hk=>simp at he hk;obtain⟨rfl,rfl⟩:=hk;subst he;exact⟨hu,hx⟩
  |i+1,he,hk=>simp at he
 |[],_::_,_,_,he,_=>by simp[tR]at he
 |_::_,[],_,_,he,_=>by simp[tR]at he
 |e::l,(k',v')::es,es',n,he,h=>by
  have h0:=he.2 0 e k' v' rfl rfl;simp only[a6d]at h;split at h
  .rename_i hq;simp at h;subst h;refine .inr ⟨0,e,by simp[Instr.findNow,qA hu h0.1 hf hq],rfl,c2a hu h0.1 hq _,?_⟩;refine⟨by simpa using he.1,λi e' k1 v1 h1 h2=>?_⟩
   match i,h1,h2 with
   |0,h1,h2=>simp at h1 h2;obtain⟨rfl,rfl⟩:=h2;subst h1;exact⟨hu,hx⟩
   |i+1,h1,h2=>exact he.2 (i+1) e' k1 v1 (by simpa using h1) (by simpa using h2)
  .rename_i hq;split at h<;>simp at h;rename_i r' eM;subst h;have cons:∀ {l':List MapEntry} {r:List (D×D)},tR R w l' r->tR R w (e::l') ((k',v')::r):=λ{l' r} hE=>⟨by simp[hE.1],λi e' k1 v1 h1 h2=>by
    match i,h1,h2 with
    |0,h1,h2=>simp at h1 h2;obtain⟨rfl,rfl⟩:=h2;subst h1;exact h0
    |i+1,h1,h2=>exact hE.2 i e' k1 v1 (by simpa using h1) (by simpa using h2)⟩
   rcases b3F hu hx hf l es r' (n+1) he.tail eM with⟨h1,h2⟩|⟨i,e',h1,h2,h3,h4⟩
   .exact .inl ⟨by simp[Instr.findNow,qA hu h0.1 hf hq,h1],λborn=>by simpa using cons (h2 born)⟩
   .exact .inr ⟨i+1,e',by simp[Instr.findNow,qA hu h0.1 hf hq,h1];omega,by simpa using h2,h3,by simpa using cons h4⟩
  .cases h
theorem eN.b3a{b:Nat}{oZ:Array MapEntry}{clock:Nat}{es:List (D×D)}(hb:w.heap[b]? =some (.map oZ clock))(h:tR R w oZ.toList es):eN R μ w b (.map es):=
 ⟨oZ,clock,hb,by simpa using h.1,λi k v hi=>by
  have tY:i<oZ.toList.length:=by rw[h.1];exact(f7I.1 hi).1
  have he:oZ.toList[i]? =some (oZ.toList[i]):=f7L tY;have:=h.2 i _ k v he hi;have hg:oZ.getD i default=oZ.toList[i]:=by
   have h3:oZ[i]? =some (oZ.toList[i]):=by rw[<-Array.getElem?_toList];exact he
   rw[f7J,h3];rfl
  rw[hg];exact this⟩
theorem tR.bI(hs:Step base R w R w'){l:List MapEntry}{es:List (D×D)}(h:tR R w l es):tR R w' l es:=⟨h.1,λi e k v h1 h2=>⟨(h.2 i e k v h1 h2).1.bI hs,(h.2 i e k v h1 h2).2.bI hs⟩⟩
theorem b6K{o:Oper}{t:TypeId}{m k x:Operand}(ho:o.op=.mapUpdate t m k x)(h:a0t P G t m k x st=some out):rL P G o st out:=by
 unfold a0t at h;split at h
 .rename_i kt et key kk xx hm hmx hk hx;split at h
  .rename_i es hg hf;simp only[f7G]at h;obtain⟨es',d1R,rfl⟩:=h;obtain⟨hu,d,hd,hs⟩:=a7E hm;intro base R μ a w hr;obtain⟨_,_,oZ,clock,hh,jG,hev⟩:=hr.gY key _ hg;have hE:=tR.a4K jG hev;rcases b3F (hr.kK hk) (hr.kK hx) (a3f hd hf) oZ.toList es es' 0 hE d1R with⟨h1,h2⟩|⟨i,e,h1,h2,h3,h4⟩
   .obtain⟨kU,mD⟩:=hr.qB (ob:=.map (oZ.push ⟨a.eval k,a.eval x,clock⟩) (clock+1)) (o':=.map es') hg hh (by simp)
     (λw' qP hb=>eN.b3a hb ((by simpa using h2 clock:tR R w (oZ.push ⟨a.eval k,a.eval x,clock⟩).toList es').bI qP))
    refine⟨Go.undef,_,R,μ,.inr ⟨?_,rfl⟩,kU,.bY #[] [] rfl (by simp),trivial,mD⟩;simp[execOp,ho,Instr.mapUpdate,run_underlying hu,hr.a7C hmx,uK (P:=P) hh,jE (P:=P) (w:=w) hd hs,pI (P:=P) (w:=w) hd h1,a0D (P:=P) hh (by simp)]
   .have tY:i<oZ.size:=by simpa using (f7I.1 h2).1
    have hei:oZ[i]? =some e:=by simpa using h2
    have f0F:(oZ.modify i λe=>{e with key:=a.eval k,val:=a.eval x}).toList=oZ.toList.set i {e with key:=a.eval k,val:=a.eval x}:=by
     apply List.ext_getElem?;intro j;rw[Array.getElem?_toList,Array.getElem?_modify,List.getElem?_set];by_cases hij:i=j
     .subst hij;have:oZ[i]=e:=by simpa[tY]using hei
      simp[tY,this]
     .simp[hij]
    obtain⟨kU,mD⟩:=hr.qB (ob:=.map (oZ.modify i λe=>{e with key:=a.eval k,val:=a.eval x}) clock) (o':=.map es') hg hh (by simp)
     (λw' qP hb=>eN.b3a hb ((by rw[f0F];exact h4:tR R w (oZ.modify i λe=>{e with key:=a.eval k,val:=a.eval x}).toList es').bI qP))
    refine⟨Go.undef,_,R,μ,.inr ⟨?_,rfl⟩,kU,.bY #[] [] rfl (by simp),trivial,mD⟩;have hkt:(Instr.keyThatStays e.key (a.eval k)).run P w=.ok (a.eval k) w:=by simp[Instr.keyThatStays,h3]
    simp only[Nat.zero_add]at h1;simp[execOp,ho,Instr.mapUpdate,run_underlying hu,hr.a7C hmx,uK (P:=P) hh,jE (P:=P) (w:=w) hd hs,pI (P:=P) (w:=w) hd h1,hei,hkt,a0D (P:=P) hh (by simp)]
  .cases h
 .cases h
theorem b3G{d:TypeDesc}{k:D}{u:Value}(hu:V R w u k)(hf:rR d k=true):∀(l:List MapEntry) (es es':List (D×D)) (n:Nat),tR R w l es->a6e k es=some es'->
  (Instr.findNow d u l n=some none/\tR R w l es')\/∃(i:Nat) (e:MapEntry),Instr.findNow d u l n=some (some (n+i,e.val))/\i<l.length/\tR R w (l.eraseIdx i) es'
 |[],[],es',n,he,h=>by simp[a6e]at h;subst h;exact .inl ⟨rfl,he⟩
 |[],_::_,_,_,he,_=>by simp[tR]at he
 |_::_,[],_,_,he,_=>by simp[tR]at he
 |e::l,(k',v')::es,es',n,he,h=>by
  have h0:=he.2 0 e k' v' rfl rfl;simp only[a6e]at h;split at h
  .rename_i hq;simp at h;subst h;exact .inr ⟨0,e,by simp[Instr.findNow,qA hu h0.1 hf hq],by simp,he.tail⟩
  .rename_i hq;split at h<;>simp at h;rename_i r' eM;subst h;have cons:∀ {l':List MapEntry} {r:List (D×D)},tR R w l' r->tR R w (e::l') ((k',v')::r):=λ{l' r} hE=>⟨by simp[hE.1],λi e' k1 v1 h1 h2=>by
    match i,h1,h2 with
    |0,h1,h2=>simp at h1 h2;obtain⟨rfl,rfl⟩:=h2;subst h1;exact h0
    |i+1,h1,h2=>exact hE.2 i e' k1 v1 (by simpa using h1) (by simpa using h2)⟩
   rcases b3G hu hf l es r' (n+1) he.tail eM with⟨h1,h2⟩|⟨i,e',h1,h2,h4⟩
   .exact .inl ⟨by simp[Instr.findNow,qA hu h0.1 hf hq,h1],cons h2⟩
   .exact .inr ⟨i+1,e',by simp[Instr.findNow,qA hu h0.1 hf hq,h1];omega,by simpa using h2,by simpa using cons h4⟩
  .cases h
theorem c5G{o:Oper}{t:TypeId}{ts:Array TypeId}{m k:Operand}(ho:o.op=.call {callee:=.builtin .delete,args:=#[m,k],argTypes:=ts})(ht:ts[0]? =some t)(h:b2Y P G t m k st=some out):rL P G o st out:=by
 unfold b2Y at h;split at h
 .rename_i kt et key kk hm hmx hk;split at h
  .rename_i es hg hf;simp only[f7G]at h;obtain⟨es',d1R,rfl⟩:=h;obtain⟨hu,d,hd,hs⟩:=a7E hm;intro base R μ a w hr;obtain⟨_,_,oZ,clock,hh,jG,hev⟩:=hr.gY key _ hg;have hE:=tR.a4K jG hev;rcases b3G (hr.kK hk) (a3f hd hf) oZ.toList es es' 0 hE d1R with⟨h1,h2⟩|⟨i,e,h1,h2,h4⟩
   .obtain⟨kU,mD⟩:=hr.qB (ob:=.map oZ clock) (o':=.map es') hg hh (by simp) (λw' qP hb=>eN.b3a hb (h2.bI qP));refine⟨.tuple #[],_,R,μ,.inl ?_,kU,.bY #[] [] rfl (by simp),trivial,mD⟩;simp[execOp,ho,resolve,invoke,builtin,Builtin.delete_,ht,run_underlying hu,hr.a7C hmx,uK (P:=P) hh,jE (P:=P) (w:=w) hd hs,pI (P:=P) (w:=w) hd h1,a0D (P:=P) hh (by simp)]
   .have tY:i<oZ.size:=by simpa using h2
    obtain⟨kU,mD⟩:=hr.qB (ob:=.map (oZ.eraseIdxIfInBounds i) clock) (o':=.map es') hg hh (by simp) (λw' qP hb=>eN.b3a hb ((by simpa[Array.eraseIdxIfInBounds,tY]using h4:tR R w (oZ.eraseIdxIfInBounds i).toList es').bI qP));refine⟨.tuple #[],_,R,μ,.inl ?_,kU,.bY #[] [] rfl (by simp),trivial,mD⟩;simp only[Nat.zero_add]at h1;simp[execOp,ho,resolve,invoke,builtin,Builtin.delete_,ht,run_underlying hu,hr.a7C hmx,uK (P:=P) hh,jE (P:=P) (w:=w) hd hs,pI (P:=P) (w:=w) hd h1,a0D (P:=P) hh (by simp)]
  .cases h
 .cases h
end
end Go.VM
namespace Go.VM
open Go Go.RowKit
section
variable {P:Program} {G:GT} {st:St} {out:Out}
variable {base:cT} {R R':Nat->Nat->Prop} {μ:Nat->Nat} {a:Act} {w w':World}
theorem c2b(s:Nat):∀(ps:List (Nat×Value)) (k:Nat) (cs:Array Value),(∀(i:Nat) (p:Nat×Value),ps[i]? =some p->p.1=k+i/\p.2.cells.size=s)->(k+ps.length)*s<=cs.size->
  ∃uJ,Instr.fill (λi=>some (i*s,s)) cs ps=some uJ/\uJ.size=cs.size/\(∀n,n<k*s->uJ[n]? =cs[n]?)/\∀(i j:Nat) (p:Nat×Value),ps[i]? =some p->j<s->uJ[(k+i)*s+j]? =p.2.cells[j]?
 |[],k,cs,_,_=>⟨cs,rfl,rfl,λ_ _=>rfl,by simp⟩
 |p::ps,k,cs,hp,hl=>by
  obtain⟨h1,h2⟩:=hp 0 p rfl;simp only[Nat.add_zero]at h1;have hk:k*s+s<=cs.size:=by have:(k+1)*s<=(k+(p::ps).length)*s:=Nat.mul_le_mul_right _ (by simp only[List.length_cons];omega);rw[Nat.add_mul,Nat.one_mul]at this;omega
  have d1S:(decide (p.2.cells.size≠s)||decide (p.1*s+p.2.cells.size>cs.size))=false:=by rw[h1,h2];simp;omega
  have c1T:Instr.fill (λi=>some (i*s,s)) cs (p::ps)=Instr.fill (λi=>some (i*s,s)) ((p.2.cells.toList.zipIdx 0).foldl (λcs (x:Value×Nat)=>cs.setIfInBounds (p.1*s+x.2) x.1) cs) ps:=by obtain⟨i,v⟩:=p;simp only[Instr.fill,d1S,Bool.false_eq_true,if_false];congr 1;rw[<-Array.foldl_toList,Array.toList_zipIdx]
  have a4t:∀n,((p.2.cells.toList.zipIdx 0).foldl (λcs (x:Value×Nat)=>cs.setIfInBounds (p.1*s+x.2) x.1) cs)[n]? =if k*s<=n/\n<k*s+s/\n<cs.size then p.2.cells[n-k*s]? else cs[n]? :=λn=>by rw[xS,h1];simp[h2]
  obtain⟨uJ,q1,q2,q3,q4⟩:=c2b s ps (k+1) ((p.2.cells.toList.zipIdx 0).foldl (λcs (x:Value×Nat)=>cs.setIfInBounds (p.1*s+x.2) x.1) cs) (λi p' hi=>by have:=hp (i+1) p' (by simpa using hi);exact⟨by omega,this.2⟩) (by rw[fold_size];simp at hl;rwa[show k+1+ps.length=k+(ps.length+1) by omega])
  refine⟨uJ,by rw[c1T];exact q1,by rw[q2,fold_size],λn hn=>?_,λi j p' hi hj=>?_⟩
  .rw[q3 n (by rw[Nat.add_mul];omega),a4t,if_neg (by omega)]
  .cases i with
   |zero=>simp at hi;subst hi;rw[Nat.add_zero,q3 _ (by rw[Nat.add_mul];omega),a4t,if_pos ⟨by omega,by omega,by omega⟩];congr 1;omega
   |succ i=>
    have:=q4 i j p' (by simpa using hi) hj
    rwa[show k+1+i=k+(i+1) by omega]at this
theorem Rel.newRow(h:Rel P G base R μ st a w){w1:World}(hw1:w1=w\/w1=w.drew){e:TypeId}{cs:Array Value}{es:List (List D)}{n cap:Nat}(jG:cs.size=cap*P.cellsOf e)(hs:0<P.cellsOf e)(hn:n=es.length)(b6F:n<=cap)(e2D:cap<=maxLen)(hlen:∀c∈es,c.length=P.cellsOf e)(qO:∀(i j:Nat) (c:List D) (d:D),es[i]? =some c->c[j]? =some d->d.one=true/\∃v,cs[i*P.cellsOf e+j]? =some v/\V R w v d):
  Rel P G base (λb o=>R b o\/(b=w.heap.size/\o<n*P.cellsOf e)) μ st a (w1.alloc (.cells cs e))/\
  Step base R w (λb o=>R b o\/(b=w.heap.size/\o<n*P.cellsOf e)) (w1.alloc (.cells cs e))/\
  V (λb o=>R b o\/(b=w.heap.size/\o<n*P.cellsOf e)) (w1.alloc (.cells cs e)) (.slice (some ⟨w.heap.size,0,none⟩) n cap) (.sl es)/\
  a4I P base (λb o=>R b o\/(b=w.heap.size/\o<n*P.cellsOf e)) μ st a (w1.alloc (.cells cs e)) (.slice (some ⟨w.heap.size,0,none⟩) n cap) (.fresh e):=by
 have b7J:w1.heap=w.heap:=by rcases hw1 with rfl|rfl<;>rfl
 have hos:w1.os=w.os/\w1.tape=w.tape/\w1.output=w.output:=by rcases hw1 with rfl|rfl<;>exact⟨rfl,rfl,rfl⟩
 have b6L:(w1.alloc (.cells cs e)).heap[w.heap.size]? =some (.cells cs e (0,0)):=by rw[<-b7J];exact heap_alloc_new w1 _
 have hold:∀k,k<w.heap.size->(w1.alloc (.cells cs e)).heap[k]? =w.heap[k]? :=λk hk=>by rw[<-b7J]at hk|-;exact Below.heap_alloc w1 _ k hk
 have vN:(w1.alloc (.cells cs e)).heap.size=w.heap.size+1:=by simp[b7J]
 have mD:Step base R w (λb o=>R b o\/(b=w.heap.size/\o<n*P.cellsOf e)) (w1.alloc (.cells cs e)):=
  ⟨⟨hos.1,hos.2.1,hos.2.2,by omega,λk hk=>hold k (Nat.lt_of_not_le λhx=>hk (h.base k hx))⟩,λ_ _ h=>.inl h,λb o hr hn=>by
   rcases hr with hr|⟨rfl,_⟩
   .exact absurd hr hn
   .exact h.base _ (f7X _),λb o hr=>World.cell?_of_block (hold b (h.pH b o hr))⟩
 have kU:=h.step mD hold (λb o hr hn=>by rcases hr with hr|⟨rfl,_⟩;exact absurd hr hn;exact f7X _) (λb o hr=>by
  rw[vN];rcases hr with hr|⟨rfl,_⟩
  .have:=h.pH b o hr;omega
  .omega)
 refine⟨kU,mD,?_,?_,?_,?_⟩
 .by_cases h0:n=0
  .have:es=[]:=List.eq_nil_of_length_eq_zero (by omega);rw[h0,this];exact .emp _ _
  .have oV:∀(i j:Nat) (c:List D) (d:D),es[i]? =some c->c[j]? =some d->∃v,(w1.alloc (.cells cs e)).cell? ⟨w.heap.size,0+i*P.cellsOf e+j,none⟩=some v/\V R w v d:=λi j c d hi hj=>by obtain⟨_,v,h2,h3⟩:=qO i j c d hi hj;exact⟨v,by rw[Nat.zero_add,cell_of_row _ _ _ cs e (0,0) b6L];exact h2,h3⟩
   refine .sl w.heap.size 0 n cap (P.cellsOf e) es (λi j=>((w1.alloc (.cells cs e)).cell? ⟨w.heap.size,0+i*P.cellsOf e+j,none⟩).getD undef) hn b6F hs hlen (λi j hi hj=>⟨.inr ⟨rfl,?_⟩,?_⟩) (λi j c d hi hj=>(qO i j c d hi hj).1) (λi j c d hi hj=>?_)
   .have:(i+1)*P.cellsOf e<=n*P.cellsOf e:=Nat.mul_le_mul_right _ (by omega);rw[Nat.add_mul]at this;omega
   .have tY:i<es.length:=by omega
    have hei:es[i]? =some es[i]:=f7L tY;have hjl:j<(es[i]).length:=by rw[hlen _ (f7M hei)];exact hj
    obtain⟨v,hv,_⟩:=oV i j es[i] (es[i])[j] hei (f7L hjl);rw[hv];rfl
   .obtain⟨v,hv,hvd⟩:=oV i j c d hi hj;rw[hv];exact hvd.bI mD
 .refine .inr ⟨w.heap.size,n,cap,cs,rfl,h.base _ (f7X _),b6L,b6F,e2D,jG,λoff ho hr=>?_⟩;rcases hr with hr|⟨_,hr⟩
  .have:=h.pH _ _ hr;omega
  .omega
 .intro k o hk hsp;obtain⟨_,_,h3⟩:=h.gY k o hk;have:=h3.lt;simp only[bF]at hsp;split at hsp<;>simp at hsp;omega
 .obtain⟨vs,rK⟩:=h.own;refine⟨vs,rK.step h hold (λb o hb hr=>by rcases hr with hr|⟨rfl,_⟩;exact hr;omega),λv' zS=>⟨λg hg hg'=>?_,λg hg hg'=>?_⟩⟩
  .have aE:=rK.lt zS hg';simp only[bF]at hg;split at hg<;>simp at hg;omega
  .have aE:=rK.lt zS hg;simp only[bF]at hg';split at hg'<;>simp at hg';omega
theorem yH{e:TypeId}(h:gK P e=true):∃i z,P.info? e=some i/\i.size=P.cellsOf e/\i.bytes=P.bytesOf e/\0<P.cellsOf e/\i.zero=some z/\z.cells.size=P.cellsOf e:=by
 unfold gK at h;split at h
 .rename_i i hi;have h1:i.size=P.cellsOf e:=by simp[Program.cellsOf,hi]
  have h2:i.bytes=P.bytesOf e:=by simp[Program.bytesOf,hi]
  simp only[f7H,decide_eq_true_eq]at h;cases hz:i.zero with
  |none=>simp[hz]at h
  |some z=>simp[hz]at h;exact⟨i,z,hi,h1,h2,by omega,hz,by omega⟩
 .cases h
theorem a3h{t e:TypeId}(h:eQ P t=some e):P.underlying t=some (.slice e):=by
 unfold eQ at h;split at h
 .simp at h;subst h;assumption
 .cases h
theorem b3H{o:Oper}{t:TypeId}{len:Nat}{parts:Array (Nat×Operand)}(ho:o.op=.buildSlice t len parts)(h:sD P G t len parts st=some out):rL P G o st out:=by
 unfold sD at h;split at h
 .rename_i e ps he hps;split at h
  .rename_i hc;simp only[f7H,decide_eq_true_eq,beq_iff_eq]at hc;obtain⟨⟨⟨mP,c9c⟩,dB⟩,f0G⟩:=hc;simp only[f7N]at h;subst h;obtain⟨i,z,hi,vN,a7F,a0E,hz,hzs⟩:=yH mP;have hu:=a3h he;intro base R μ a w hr;obtain⟨hl,hp⟩:=a4L hr hps;have hpl:ps.length=len:=by have:=congrArg List.length c9c;simpa using this
   have d1U:∀q∈ps,q.2.cells.length=P.cellsOf e:=λq hq=>by simpa using f7K.1 dB q hq
   have a4t:∀(i:Nat) (p:Nat×Value),(parts.toList.map λx=>(x.1,a.eval x.2))[i]? =some p->∃q,ps[i]? =some q/\p.1=i/\V R w p.2 q.2:=λi p hpi=>by
    have tY:i<ps.length:=by rw[<-hl];have:=(f7I.1 hpi).1;simpa using this
    have hq:ps[i]? =some ps[i]:=f7L tY;obtain⟨h1,h2⟩:=hp i p ps[i] hpi hq;refine⟨ps[i],hq,?_,h2⟩;have h3:(ps.map (·.1))[i]? =(List.range len)[i]? :=by rw[c9c]
    rw[f7R,hq,List.getElem?_range (by omega)]at h3;have h4:ps[i].1=i:=by simpa using h3
    omega
   obtain⟨uJ,q1,q2,_,q4⟩:=c2b (P.cellsOf e) (parts.toList.map λx=>(x.1,a.eval x.2)) 0 ((Array.range (len*P.cellsOf e)).map λi=>(if len*P.cellsOf e=0 then(#[]:Array Value) else z.cells)[i%(if len*P.cellsOf e=0 then(#[]:Array Value) else z.cells).size]!)
    (λi p hpi=>by obtain⟨q,hq,h1,h2⟩:=a4t i p hpi;exact⟨by omega,by rw[h2.cells.1,d1U q (f7M hq)]⟩) (by simp[hl,hpl])
   have d1V:uJ.size=len*P.cellsOf e:=by rw[q2];simp
   have hN:=hr.newRow (w1:=w) (.inl rfl) (e:=e) (cs:=uJ) (es:=ps.map λp=>p.2.cells) (n:=len) (cap:=len) d1V a0E (by simp[hpl]) (f7X _)
    (by unfold maxLen;have:len*1<=len*P.cellsOf e:=Nat.mul_le_mul_left _ a0E;omega) (λc hc=>by simp only[List.mem_map]at hc;obtain⟨q,hq,rfl⟩:=hc;exact d1U q hq)
    (λi j c d hi hj=>by
     simp only[f7R,f7G]at hi;obtain⟨q,hq,rfl⟩:=hi;have tY:i<parts.toList.length:=by rw[hl];exact(f7I.1 hq).1
     have hpi:(parts.toList.map λx=>(x.1,a.eval x.2))[i]? =some ((parts.toList[i]).1,a.eval (parts.toList[i]).2):=by rw[f7R,f7L tY];rfl
     obtain⟨_,hv⟩:=hp i _ q hpi hq;obtain⟨v1,v2⟩:=hv.cells;have hjl:j<q.2.cells.length:=(f7I.1 hj).1;obtain⟨h1,h2⟩:=v2 j d hj;have:=q4 i j _ hpi (by rw[<-d1U q (f7M hq)];exact hjl);rw[Nat.zero_add]at this;refine⟨h1,_,?_,h2⟩;rw[this];have hjs:j<(a.eval (parts.toList[i]).2).cells.size:=by rw[v1];exact hjl
     rw[f7J,f7Z hjs];rfl)
   obtain⟨n1,n2,n3,n4⟩:=hN;refine⟨_,_,_,μ,.inl ?_,n1,.d _ _ n3,n4,n2⟩;have e7f: ¬(len*P.cellsOf e>2 ^ 24):=by omega
   have e7g:(parts.map λ(x:Nat×Operand)=>(x.1,a.eval x.2)).toList=parts.toList.map λx=>(x.1,a.eval x.2):=by simp
   have hso:=tZ (P:=P) (t:=e) (by rw[hi];rfl) w;by_cases h0:len*P.cellsOf e=0
   .simp only[h0,if_true]at q1;simp only[execOp,ho,Instr.buildSlice,Sem.run_bind,run_underlying hu,Result.andThen_ok,hso,h0,gt_iff_lt,Nat.not_lt_zero,if_false,if_true,Sem.run_pure,e7g,q1,newRow]
    rfl
   .simp only[h0,if_false]at q1;simp only[execOp,ho,Instr.buildSlice,Sem.run_bind,run_underlying hu,Result.andThen_ok,hso,if_neg e7f,h0,if_false,Sem.run_pure,zeroValue,typeInfo,hi,hz,e7g,q1,newRow,run_program]
    rfl
  .cases h
 .cases h
end
end Go.VM
namespace Go.VM
open Go Go.RowKit
section
variable {P:Program} {G:GT} {st:St} {out:Out}
variable {base:cT} {R R':Nat->Nat->Prop} {μ:Nat->Nat} {a:Act} {w w':World}
theorem a8S{b o size:Nat}{ys:List (List D)}(hlen:∀e∈ys,e.length=size)(cZ:∀(i:Nat) (e:List D),ys[i]? =some e->Run R w b (o+i*size) e):
  ∃news:List Value,news.length=ys.length*size/\(∀(j:Nat) (u:Value),news[j]? =some u->w.cell? ((⟨b,o,none⟩:Addr).add j)=some u)/\(∀u∈news,u.oneCell'=true)/\
   ∀(i j:Nat) (c:List D) (d:D),ys[i]? =some c->c[j]? =some d->d.one=true/\∃v,news[i*size+j]? =some v/\V R w v d:=by
 have oV:∀n,n<ys.length*size->∃v d,w.cell? ⟨b,o+n,none⟩=some v/\d.one=true/\V R w v d/\∃c,ys[n/size]? =some c/\c[n%size]? =some d:=λn hn=>by
  have hs:0<size:=by
   rcases Nat.eq_zero_or_pos size with h|h
   .subst h;simp at hn
   .exact h
  have hi:n/size<ys.length:=by rw[Nat.div_lt_iff_lt_mul hs];exact hn
  have hei:ys[n/size]? =some ys[n/size]:=f7L hi;have hj:n%size<(ys[n/size]).length:=by rw[hlen _ (f7M hei)];exact Nat.mod_lt _ hs
  have hd:=f7L hj;obtain⟨h1,_,v,h3,h4⟩:=cZ _ _ hei _ _ hd;have heq:o+n/size*size+n%size=o+n:=by have:=Nat.div_add_mod n size;rw[Nat.mul_comm]at this;omega
  rw[heq]at h3;exact⟨v,_,h3,h1,h4,_,hei,hd⟩
 refine⟨(List.range (ys.length*size)).map λn=>(w.cell? ⟨b,o+n,none⟩).getD undef,by simp,λj u hj=>?_,λu hu=>?_,λi j c d hi hj=>?_⟩
 .simp only[f7R,f7G]at hj;obtain⟨n,hn,rfl⟩:=hj;have aE:j<ys.length*size:=by simpa using (f7I.1 hn).1
  rw[List.getElem?_range aE]at hn;cases hn;obtain⟨v,d,h1,_⟩:=oV j aE;rw[qN,h1];rfl
 .simp only[List.mem_map,List.mem_range]at hu;obtain⟨n,hn,rfl⟩:=hu;obtain⟨v,d,h1,h2,h3,_⟩:=oV n hn;rw[h1];exact h3.a8O h2
 .have tY:i<ys.length:=(f7I.1 hi).1;have hjl:j<size:=by rw[<-hlen c (f7M hi)];exact(f7I.1 hj).1
  have aE:i*size+j<ys.length*size:=by have:(i+1)*size<=ys.length*size:=Nat.mul_le_mul_right _ tY;rw[Nat.add_mul]at this;omega
  obtain⟨h1,_,v,h3,h4⟩:=cZ i c hi j d hj;refine⟨h1,v,?_,h4⟩;rw[f7R,List.getElem?_range aE];simp only[Option.map_some];rw[show o+(i*size+j)=o+i*size+j by omega,h3];rfl
theorem b7L(hr:Rel P G base R μ st a w){x:Operand}{ys:List (List D)}(h:d6U (st.eval G x)=some ys):∃ao cap,a.eval x=.slice ao ys.length cap/\
  (ys≠[]->∃b o size,ao=some ⟨b,o,none⟩/\0<size/\(∀e∈ys,e.length=size)/\∀(i:Nat) (e:List D),ys[i]? =some e->Run R w b (o+i*size) e):=by
 unfold d6U at h;split at h
 .rename_i es hx;simp at h;subst h;obtain⟨ao,cap,h1,_,h3⟩:=(hr.kK hx).a0z;exact⟨ao,cap,h1,h3⟩
 .rename_i hx;simp at h;subst h;obtain⟨ao,h1⟩:=(hr.kK hx).jQ;exact⟨ao,0,h1,λh=>absurd rfl h⟩
 .cases h
theorem a8T{l:Loc}:∀ {own:List (TypeId×List Loc)} {e:TypeId} {dV:List (TypeId×List Loc)},gC l own=some (e,dV)->∃pre c post,own=pre++c::post/\dV=pre++post/\c.1=e/\l∈c.2
 |[],e,dV,h=>by simp[gC]at h
 |c::r,e,dV,h=>by
  simp only[gC]at h;split at h
  .rename_i hc;simp at h;exact⟨[],c,r,rfl,h.2.symm,h.1,by simpa using hc⟩
  .simp only[f7G]at h;obtain⟨⟨e',r'⟩,hr,he⟩:=h;simp at he;obtain⟨pre,c',post,h1,h2,h3,h4⟩:=a8T hr;exact⟨c::pre,c',post,by simp[h1],by rw[<-he.2,h2];rfl,h3.trans he.1,h4⟩
theorem Rel.gC(h:Rel P G base R μ st a w){l:Loc}{e:TypeId}{dV:List (TypeId×List Loc)}(ht:Go.VM.gC l st.own=some (e,dV)):
  Rel P G base R μ {st with own:=dV} a w/\∃v vs,(∀u,cB a w μ l=some u->u=v)/\pG P base R w e v/\(∀k o,getKey k st.H=some o->bF v≠some (μ k))/\a0v P base R μ {st with own:=dV} a w vs/\∀v'∈vs,a3X v v'/\a3X v' v:=by
 obtain⟨pre,c,post,h1,rfl,h3,h4⟩:=a8T ht;obtain⟨vs,rK⟩:=h.own;have hpl:pre.length<vs.length:=by rw[rK.len,h1];simp
 have c5H:vs=vs.take pre.length++vs[pre.length]::vs.drop (pre.length+1):=by rw[<-f7U hpl,List.take_append_drop]
 have hc:=rK.one pre.length c vs[pre.length] (by rw[h1];simp) (f7L hpl);have yV:=rK.apart;rw[c5H,List.pairwise_append,List.pairwise_cons]at yV;have hO:a0v P base R μ {st with own:=pre++post} a w (vs.take pre.length++vs.drop (pre.length+1)):=by
  refine⟨?_,λi c' v yU hv=>?_,?_⟩
  .have:=rK.len;rw[h1]at this;simp at this|-;omega
  .by_cases hi:i<pre.length
   .refine(λq=>⟨q.dI,q.own,q.keys⟩:a3b P base R μ st a w c' v->_) (rK.one i c' v ?_ ?_)
    .rw[h1,f7S hi];simpa[f7S hi]using yU
    .rw[f7S (by simp;omega),List.getElem?_take]at hv;rw[if_pos hi]at hv;exact hv
   .refine(λq=>⟨q.dI,q.own,q.keys⟩:a3b P base R μ st a w c' v->_) (rK.one (i+1) c' v ?_ ?_)
    .rw[h1,f7P (by omega),show i+1-pre.length=(i-pre.length)+1 by omega,List.getElem?_cons_succ];simpa[f7P (Nat.le_of_not_lt hi)]using yU
    .have a3d:min pre.length vs.length=pre.length:=by omega
     rw[f7P (by simp;omega),f8a]at hv;simp only[List.length_take,a3d]at hv
     rwa[show pre.length+1+(i-pre.length)=i+1 by omega]at hv
  .rw[List.pairwise_append];exact⟨yV.1,yV.2.1.2,λx hx y hy=>yV.2.2 x hx y (.tail _ hy)⟩
 refine⟨⟨h.defers,h.size,h.tmps,h.gY,h.inj,λc' yU k off hl=>h.dI c' (by rw[h1];simp at yU|-;rcases yU with q|q<;>simp[q]) k off hl,⟨_,hO⟩,h.tQ,h.pH,h.base,h.pass⟩,vs[pre.length],_,λu hu=>hc.dI l h4 u hu,by rw[<-h3];exact hc.own,hc.keys,hO,λv' zS=>?_⟩;simp only[List.mem_append]at zS;rcases zS with zS|zS
 .have:=yV.2.2 v' zS vs[pre.length] (.head _);exact⟨λg hg hg'=>this g hg' hg,this⟩
 .have:=yV.2.1.1 v' zS;exact⟨this,λg hg hg'=>this g hg' hg⟩
theorem Rel.c7K(h:Rel P G base R μ st a w){g n m s:Nat}{e:TypeId}{cur cur':Array Value}(hgk:∀k o,getKey k st.H=some o->μ k≠g){vs:List Value}(rK:a0v P base R μ st a w vs)(hgv:∀v∈vs,bF v≠some g)(hb:base g)(hg:w.heap[g]? =some (.cells cur e (0,0)))(hR:∀off,n*s<=off-> ¬R g off)(d7d:∀off,off<n*s->cur'[off]? =cur[off]?):
  Rel P G base (λb o=>R b o\/(b=g/\o<(n+m)*s)) μ st a (w.setRow g cur')/\Step base R w (λb o=>R b o\/(b=g/\o<(n+m)*s)) (w.setRow g cur')/\
  a0v P base (λb o=>R b o\/(b=g/\o<(n+m)*s)) μ st a (w.setRow g cur') vs:=by
 have a0C:∀j,j≠g->(w.setRow g cur').heap[j]? =w.heap[j]? :=λj hj=>setRow_other w g j _ hj;have b6L:(w.setRow g cur').heap[g]? =some (.cells cur' e (0,0)):=setRow_heap w g cur _ e _ hg;have f0J:g<w.heap.size:=(f7Q.1 hg).1;have mD:Step base R w (λb o=>R b o\/(b=g/\o<(n+m)*s)) (w.setRow g cur'):=
  ⟨⟨rfl,rfl,rfl,by simp[World.setRow],λk hk=>a0C k λe=>hk (e▸hb)⟩,λ_ _ h=>.inl h,λb o hr hn=>by
   rcases hr with hr|⟨rfl,_⟩
   .exact absurd hr hn
   .exact hb,λb o hr=>by
   by_cases hbg:b=g
   .subst hbg;have aE:o<n*s:=Nat.lt_of_not_le λhle=>hR o hle hr;rw[cell_of_row _ _ _ cur' e (0,0) b6L,cell_of_row _ _ _ cur e (0,0) hg,d7d o aE]
   .exact World.cell?_of_block (a0C b hbg)⟩
 have hO:a0v P base (λb o=>R b o\/(b=g/\o<(n+m)*s)) μ st a (w.setRow g cur') vs:=by
  refine⟨rK.len,λi c v hc hv=>?_,rK.apart⟩;have ho:=rK.one i c v hc hv;have eF:=hgv v (f7M hv);refine⟨λl hl u hu=>ho.dI l hl u ?_,ho.own.c7D (λg' hg'=>a0C g' (by rintro rfl;exact eF hg')) (λg' off hg' hr=>?_),ho.keys⟩
  .cases l with
   |t i=>exact hu
   |c k off=>obtain⟨o,hk⟩:=h.dI c (f7M hc) k off hl;rw[<-hu];exact(World.cell?_of_block (a0C _ (hgk k o hk))).symm
  .rcases hr with hr|⟨rfl,_⟩
   .exact hr
   .exact absurd hg' eF
 refine⟨⟨h.defers,h.size,λi v d hv hd=>(h.tmps i v d hv hd).bI mD,λk o hk=>?_,h.inj,h.dI,⟨vs,hO⟩,h.tQ.bI mD,λb o hr=>?_,by have:=h.base;simpa[World.setRow]using this,h.pass⟩,mD,hO⟩
 .obtain⟨q1,q2,q3⟩:=h.gY k o hk;refine⟨q1,λoff hr=>?_,q3.bI mD (a0C _ (hgk k o hk))⟩;rcases hr with hr|⟨he,_⟩
  .exact q2 off hr
  .exact hgk k o hk he
 .have:b<w.heap.size:=by
   rcases hr with hr|⟨rfl,_⟩
   .exact h.pH b o hr
   .exact f0J
  simpa[World.setRow]using this
theorem a7G(hr:Rel P G base R μ st a w){e:TypeId}{z:Value}(hs:0<P.cellsOf e)(hzs:z.cells.size=P.cellsOf e){xs ys:List (List D)}{olds news:List Value}(old:Nat)(hb:xs.length+ys.length<=maxLen)(hlx:∀c∈xs,c.length=P.cellsOf e)(hly:∀c∈ys,c.length=P.cellsOf e)(rT:olds.length=xs.length*P.cellsOf e)(hln:news.length=ys.length*P.cellsOf e)(ho:∀(i j:Nat) (c:List D) (d:D),xs[i]? =some c->c[j]? =some d->d.one=true/\∃v,olds[i*P.cellsOf e+j]? =some v/\V R w v d)(hn:∀(i j:Nat) (c:List D) (d:D),ys[i]? =some c->c[j]? =some d->d.one=true/\∃v,news[i*P.cellsOf e+j]? =some v/\V R w v d)(cs:Array Value)(qO:cs=olds.toArray++news.toArray++Builtin.zeroCells z.cells (grownCap w (xs.length+ys.length) old e-(xs.length+ys.length))):
  ∃R',Rel P G base R' μ st a (w.drew.alloc (.cells cs e))/\Step base R w R' (w.drew.alloc (.cells cs e))/\
   V R' (w.drew.alloc (.cells cs e)) (.slice (some ⟨w.heap.size,0,none⟩) (xs.length+ys.length) (grownCap w (xs.length+ys.length) old e)) (.sl (xs++ys))/\
   a4I P base R' μ st a (w.drew.alloc (.cells cs e)) (.slice (some ⟨w.heap.size,0,none⟩) (xs.length+ys.length) (grownCap w (xs.length+ys.length) old e)) (.fresh e):=by
 have hge:=grownCap_ge w (xs.length+ys.length) old e;have e2D:=grownCap_le_maxLen w (xs.length+ys.length) old e hb;have jG:cs.size=grownCap w (xs.length+ys.length) old e*P.cellsOf e:=by rw[qO];simp only[Array.size_append,List.size_toArray,size_zeroCells,hzs,rT,hln, <- Nat.add_mul];congr 1;omega
 have:=hr.newRow (w1:=w.drew) (.inr rfl) (e:=e) (cs:=cs) (es:=xs++ys) (n:=xs.length+ys.length) jG hs (by simp) hge e2D
  (λc hc=>by simp at hc;rcases hc with hc|hc;exact hlx c hc;exact hly c hc) (λi j c d hi hj=>by
   by_cases tY:i<xs.length
   .rw[f7S tY]at hi;obtain⟨h1,v,h2,h3⟩:=ho i j c d hi hj;refine⟨h1,v,?_,h3⟩;have aE:=(f7I.1 h2).1;rw[qO,Array.getElem?_append,if_pos (by simp;omega),Array.getElem?_append,if_pos (by simpa using aE)];simpa using h2
   .rw[f7P (by omega)]at hi;obtain⟨h1,v,h2,h3⟩:=hn (i-xs.length) j c d hi hj;refine⟨h1,v,?_,h3⟩;have aE:=(f7I.1 h2).1;have c9c:i*P.cellsOf e+j=olds.length+((i-xs.length)*P.cellsOf e+j):=by rw[rT, <- Nat.add_assoc, <- Nat.add_mul];congr 2;omega
    rw[qO,c9c,Array.getElem?_append,if_pos (by simp;omega),Array.getElem?_append,if_neg (by simp)];simpa using h2)
 exact⟨_,this⟩
theorem c2d(hr:Rel P G base R μ st a w){t t' e:TypeId}{x:Operand}{ys:List (List D)}(hu:P.underlying t=some (.slice e))(a0E:0<P.cellsOf e)(h:b9s P t t' (st.eval G x)=some ys)(hly:∀c∈ys,c.length=P.cellsOf e):
  ∃news:List Value,Src P (P.cellsOf e) t' (a.eval x) ys.length news w/\∀(i j:Nat) (c:List D) (d:D),ys[i]? =some c->c[j]? =some d->d.one=true/\∃v,news[i*P.cellsOf e+j]? =some v/\V R w v d:=by
 unfold b9s at h;split at h
 .rename_i ht;subst ht;obtain⟨ao,cap,h1,h2⟩:=b7L hr h;by_cases eF:ys=[]
  .subst eF;refine⟨[],?_,by simp⟩;rw[h1];cases ao with
   |none=>exact Src.ofNil w hu cap
   |some ad=>exact Src.ofSlice w hu ad 0 cap [] (by simp) (by simp) (by simp)
  .obtain⟨b,off,size,rfl,q1,q2,q3⟩:=h2 eF;have jG:size=P.cellsOf e:=by
    cases ys with
    |nil=>exact absurd rfl eF
    |cons c l=>rw[<-q2 c (.head _),hly c (.head _)]
   subst jG;obtain⟨news,n1,n2,n3,n4⟩:=a8S q2 q3;refine⟨news,?_,n4⟩;rw[h1];exact Src.ofSlice w hu _ _ cap news n1 n2 n3
 .split at h
  .rename_i e' s hk he hx;have hee:e'=e:=by
    have:=a3h he;rw[hu]at this;cases this
    rfl
   subst hee;split at h
   .rename_i hc;cases h;refine⟨byteCells ⟨s.toArray⟩,?_,λi j c d hi hj=>?_⟩
    .rw[hr.a8R hx,hc.2];have:=Src.ofString w hk ⟨s.toArray⟩;simpa[ByteArray.size]using this
    .rw[f7R]at hi;obtain⟨b,hb,rfl⟩:=f7G.1 hi;cases j with
     |zero=>simp at hj;subst hj;refine⟨rfl,.int .u8 b.toNat,?_,.int _ _⟩;rw[hc.2];simp[byteCells,hb]
     |succ j=>simp at hj
   .cases h
  .cases h
theorem a4d{t t' e ty:TypeId}{i:TypeInfo}{x:Value}(hu:P.underlying t=some (.slice e))(hi:P.info? e=some i)(hs:Src P i.size t' x 0 [] w)(b:Option Addr)(n cap:Nat)(hn:n<=cap):
  (Builtin.append_ #[t,t'] ty #[.slice b n cap,x]).run P w=.ok (.slice b n cap) w:=by
 rcases hs.kind with⟨e',hk⟩|hk<;>cases b<;>simp[Builtin.append_,run_underlying hu,run_underlying hk,sizeOf,typeInfo,hi,hs.len,hn,hs.cells,storeCells]
theorem b0D{t t' ty e:TypeId}{i:TypeInfo}(ht:P.underlying t=some (.slice e))(hi:P.info? e=some i){g c5I e2G:Nat}{cur:Array Value}(hg:w.heap[g]? =some (.cells cur e (0,0))){x:Value}{m:Nat}{news:List Value}(hs:Src P i.size t' x m news w)(a4P:c5I+m<=e2G)(jR:c5I*i.size+news.length<=cur.size):
  (Builtin.append_ #[t,t'] ty #[.slice (some ⟨g,0,none⟩) c5I e2G,x]).run P w=
   .ok (.slice (some ⟨g,0,none⟩) (c5I+m) e2G) (w.setRow g (cur.toList.take (c5I*i.size)++news++cur.toList.drop (c5I*i.size+news.length)).toArray):=by
 have mD:=run_storeCells_at P g (c5I*i.size) e news 0 cur w hg (by simpa using jR) hs.one;simp only[Nat.add_zero]at mD;rcases hs.kind with⟨e',hk⟩|hk<;>simp[Builtin.append_,run_underlying ht,run_underlying hk,sizeOf,typeInfo,hi,hs.len,a4P,hs.cells,Addr.add_lit,mD]
theorem c5J{o:Oper}{t t':TypeId}{s x:Operand}(ho:o.op=.call {callee:=.builtin .append,args:=#[s,x],argTypes:=#[t,t']})(h:a2Z P G t t' s x st=some out):rL P G o st out:=by
 unfold a2Z at h;split at h
 case h_2=>cases h
 rename_i e ys he hys;split at h
 case isFalse=>cases h
 rename_i hc;obtain⟨mP,dB⟩:=hc;obtain⟨ti,z,hi,vN,a7F,a0E,hz,hzs⟩:=yH mP;have hu:=a3h he;have hly:∀c∈ys,c.length=P.cellsOf e:=λc hc=>by simpa using f7K.1 dB c hc
 have a4Q:∀(a:Act) (w:World) (v:Value) (w':World),(Builtin.append_ #[t,t'] o.type #[a.eval s,a.eval x]).run P w=.ok v w'->(execOp a.eval o).run P w=.ok (.value v) w':=λa w v w' hr=>by simp[execOp,ho,resolve,invoke,builtin,hr]
 have b7M:∀ {base:cT} {R:Nat->Nat->Prop} {μ:Nat->Nat} {a:Act} {w:World},Rel P G base R μ st a w->∃news:List Value,Src P ti.size t' (a.eval x) ys.length news w/\∀(i j:Nat) (c:List D) (d:D),ys[i]? =some c->c[j]? =some d->d.one=true/\∃v,news[i*P.cellsOf e+j]? =some v/\V R w v d:=λhr=>by rw[vN];exact c2d hr hu a0E hys hly
 have e0t:∀ {news:List Value} {v:Value} {w:World},Src P ti.size t' v ys.length news w->ys=[]->news=[]:=λhs hy=>by have:=hs.newsLen;rw[hy]at this;exact List.eq_nil_of_length_eq_zero (by simpa using this)
 have b3C:∀(st':St) (dV:List (TypeId×List Loc)),st'={st with own:=dV}->ys.length*(P.bytesOf e+1)<=140737488355328->∀ {base:cT} {R:Nat->Nat->Prop} {μ:Nat->Nat} {a:Act} {w:World},Rel P G base R μ st a w->Rel P G base R μ st' a w->(∃ao,a.eval s=.slice ao 0 0)->
   ∃v w' R' μ',((execOp a.eval o).run P w=.ok (.value v) w'\/((execOp a.eval o).run P w=.ok .skip w'/\v=Go.undef))/\Rel P G base R' μ' st' a w'/\TV R' μ' w' v (.d (.sl ys))/\a4I P base R' μ' st' a w' v (.fresh e)/\Step base R w R' w':=by
  intro st' dV f4D hbd base R μ a w hr eM ⟨ao,hs⟩;obtain⟨news,b6M,h5⟩:=b7M hr;have h2:news.length=ys.length*P.cellsOf e:=by rw[b6M.newsLen,vN]
  by_cases eF:ys=[]
  .have hn0:=e0t b6M eF;subst eF;subst hn0;obtain⟨vs,rK⟩:=eM.own;refine⟨.slice ao 0 0,w,R,μ,.inl (a4Q a w _ w ?_),eM,.d _ _ (.emp _ _),⟨.inl ⟨ao,rfl⟩,λk o _=>by cases ao<;>simp[bF],vs,rK,λv' _=>⟨λg hg=>by cases ao<;>simp[bF]at hg,λg _ hg=>by cases ao<;>simp[bF]at hg⟩⟩,.refl _ _ _⟩;rw[hs];exact a4d hu hi b6M ao 0 0 (f7X _)
  .have hlen:0<ys.length:=by cases ys with|nil=>exact absurd rfl eF|cons _ _=>simp
   have hb1:ys.length<=140737488355328:=by rw[Nat.mul_add]at hbd;omega
   have hb2:ys.length*P.bytesOf e<=140737488355328:=by rw[Nat.mul_add]at hbd;omega
   obtain⟨R',n1,n2,n3,n4⟩:=a7G eM (e:=e) (z:=z) a0E hzs (xs:=[]) (ys:=ys) (olds:=[]) (news:=news) 0 (by unfold maxLen;simp;omega) (by simp) hly (by simp) h2 (by simp) h5 _ rfl;simp only[List.length_nil,Nat.zero_add,List.nil_append]at n1 n2 n3 n4;refine⟨_,_,R',μ,.inl (a4Q a w _ _ ?_),n1,.d _ _ n3,n4,n2⟩;rw[hs];have:=run_append_grow_src (P:=P) w t t' o.type e ti z hu hi hz ao 0 0 [] (by cases ao<;>simp[Builtin.firstCells,loadCells,loadCellsFrom]) (a.eval x) ys.length news b6M (by omega) (by omega) (by rw[a7F];exact growslice_fits (by omega) (by rw[Nat.zero_add];exact hb2));simpa using this
 split at h
 .rename_i hsn;split at h
  case isFalse=>cases h
  rename_i hbd;simp only[f7N]at h;subst h;intro base R μ a w hr;exact b3C st st.own rfl hbd hr hr ((hr.kK hsn).jQ)
 .rename_i xs i hsx;split at h
  case h_2=>cases h
  rename_i e' dV htk;split at h
  case isFalse=>cases h
  rename_i hc;obtain⟨rfl,e7i,hbd⟩:=hc;simp only[f7N]at h;subst h;intro base R μ a w hr;obtain⟨eM,v0,vs,hv0,kJ,a2y,rK,yV⟩:=hr.gC htk;have hsv:a.eval (.tmp i)=v0:=by
   refine hv0 _ ?_
   show a.tmps[i]? =some (a.tmps.getD i undef)
   by_cases hs:i<a.tmps.size
   .simp[hs]
   .have h3: ¬i<st.tmps.length:=by rw[<-hr.size];exact hs
    simp[St.eval,List.getD,List.getElem?_eq_none (Nat.le_of_not_lt h3)]at hsx
  have hV:=hr.kK hsx;have hlx:∀c∈xs,c.length=P.cellsOf e':=λc hc=>by simpa using f7K.1 e7i c hc
  rcases kJ with⟨ao,rfl⟩|⟨g,n,cap,cur,rfl,hbg,hg,hnc,hcm,qO,hnR⟩
  .have hx0:xs=[]:=by obtain⟨ao',d7a,h1,_⟩:=hV.a0z;rw[hsv]at h1;exact List.eq_nil_of_length_eq_zero (Value.slice.inj h1).2.1.symm
   subst hx0;simp only[List.length_nil,Nat.zero_add]at hbd;simpa using b3C {st with own:=dV} dV rfl hbd hr eM ⟨ao,hsv⟩
  .obtain⟨ao',d7a,h1,_,d1X⟩:=hV.a0z;rw[hsv]at h1;cases h1;have holds:∃olds:List Value,olds.length=xs.length*P.cellsOf e'/\(∀(j:Nat) (u:Value),olds[j]? =some u->w.cell? ((⟨g,0,none⟩:Addr).add j)=some u)/\
     ∀(i j:Nat) (c:List D) (d:D),xs[i]? =some c->c[j]? =some d->d.one=true/\∃v,olds[i*P.cellsOf e'+j]? =some v/\V R w v d:=by
    by_cases hx0:xs=[]
    .subst hx0;exact⟨[],by simp,by simp,by simp⟩
    .obtain⟨b,o',size,hba,q1,q2,q3⟩:=d1X hx0;cases hba;have jG:size=P.cellsOf e':=by
      cases xs with
      |nil=>exact absurd rfl hx0
      |cons c l=>rw[<-q2 c (.head _),hlx c (.head _)]
     subst jG;obtain⟨olds,n1,n2,_,n4⟩:=a8S q2 q3;exact⟨olds,n1,n2,n4⟩
   obtain⟨olds,o1,o2,o3⟩:=holds;have hb1:xs.length+ys.length<=140737488355328:=by rw[Nat.mul_add]at hbd;omega
   have hb2:(xs.length+ys.length)*P.bytesOf e'<=140737488355328:=by rw[Nat.mul_add]at hbd;omega
   obtain⟨news,b6M,h5⟩:=b7M hr;have h2:news.length=ys.length*P.cellsOf e':=by rw[b6M.newsLen,vN]
   by_cases eF:ys=[]
   .have hn0:=e0t b6M eF;subst eF;subst hn0;refine⟨.slice (some ⟨g,0,none⟩) xs.length cap,w,R,μ,.inl (a4Q a w _ w ?_),eM,.d _ _ ?_,⟨.inr ⟨g,_,cap,cur,rfl,hbg,hg,hnc,hcm,qO,hnR⟩,a2y,vs,rK,yV⟩,.refl _ _ _⟩
    .rw[hsv];exact a4d hu hi b6M _ _ cap hnc
    .rw[List.append_nil, <- hsv];exact hV
   .have hlen:0<ys.length:=by cases ys with|nil=>exact absurd rfl eF|cons _ _=>simp
    by_cases a4P:xs.length+ys.length<=cap
    .have hmul:(xs.length+ys.length)*P.cellsOf e'<=cap*P.cellsOf e':=Nat.mul_le_mul_right _ a4P;have jR:xs.length*P.cellsOf e'+news.length<=cur.size:=by rw[h2,qO, <- Nat.add_mul];exact hmul
     have cZ:=b0D (P:=P) (ty:=o.type) hu hi hg b6M a4P (by rw[vN];exact jR);rw[vN]at cZ;generalize c2f:(cur.toList.take (xs.length*P.cellsOf e')++news++cur.toList.drop (xs.length*P.cellsOf e'+news.length)).toArray=cur' at cZ;have a4t:∀k,cur'[k]? =if k<xs.length*P.cellsOf e' then cur[k]? else if k<xs.length*P.cellsOf e'+news.length then news[k-xs.length*P.cellsOf e']? else cur[k]? :=λk=>by rw[<-c2f,List.getElem?_toArray,a3g _ _ _ (by simpa using jR)];simp
     have b2x:bF (.slice (some ⟨g,0,none⟩) xs.length cap)=some g:=by simp[bF];omega
     obtain⟨q1,q2,q3⟩:=eM.c7K (g:=g) (n:=xs.length) (m:=ys.length) (s:=P.cellsOf e') (cur':=cur') (λk o' hk he=>a2y k o' hk (by rw[b2x,he])) rK (λv' zS hsp=>(yV v' zS).1 g b2x hsp) hbg hg hnR (λoff c8Z=>by rw[a4t,if_pos c8Z]);have b6L:(w.setRow g cur').heap[g]? =some (.cells cur' e' (0,0)):=setRow_heap w g cur _ e' _ hg;have d1V:cur'.size=cap*P.cellsOf e':=by rw[<-c2f, <- qO];simp only[List.size_toArray,List.length_append,List.length_take,List.length_drop,Array.length_toList];omega
     refine⟨.slice (some ⟨g,0,none⟩) (xs.length+ys.length) cap,_,_,μ,.inl (a4Q a w _ _ (by rw[hsv];exact cZ)),q1,.d _ _ ?_,?_,q2⟩
     .have oV:∀(i j:Nat) (c:List D) (d:D),(xs++ys)[i]? =some c->c[j]? =some d->d.one=true/\∃v,(w.setRow g cur').cell? ⟨g,0+i*P.cellsOf e'+j,none⟩=some v/\V R w v d:=λi j c d hi' hj=>by
       rw[Nat.zero_add,cell_of_row _ _ _ cur' e' (0,0) b6L,a4t];by_cases tY:i<xs.length
       .rw[f7S tY]at hi';obtain⟨w1,v,w2,w3⟩:=o3 i j c d hi' hj;have aE:=(f7I.1 w2).1;have b3I:=o2 _ v w2;rw[qN,Nat.zero_add,cell_of_row _ _ _ cur e' (0,0) hg]at b3I;rw[if_pos (by omega)];exact⟨w1,v,b3I,w3⟩
       .rw[f7P (by omega)]at hi';obtain⟨w1,v,w2,w3⟩:=h5 (i-xs.length) j c d hi' hj;have aE:=(f7I.1 w2).1;have c9c:i*P.cellsOf e'+j=xs.length*P.cellsOf e'+((i-xs.length)*P.cellsOf e'+j):=by rw[<-Nat.add_assoc, <- Nat.add_mul];congr 2;omega
        rw[c9c,if_neg (by omega),if_pos (by omega),Nat.add_sub_cancel_left];exact⟨w1,v,w2,w3⟩
      refine .sl g 0 _ cap (P.cellsOf e') _ (λi j=>((w.setRow g cur').cell? ⟨g,0+i*P.cellsOf e'+j,none⟩).getD undef) (by simp) a4P a0E (λc hc=>by simp at hc;rcases hc with hc|hc;exact hlx c hc;exact hly c hc) (λi j hi' hj=>⟨.inr ⟨rfl,?_⟩,?_⟩) (λi j c d hi' hj=>(oV i j c d hi' hj).1) (λi j c d hi' hj=>?_)
      .have:(i+1)*P.cellsOf e'<=(xs.length+ys.length)*P.cellsOf e':=Nat.mul_le_mul_right _ (by omega);rw[Nat.add_mul]at this;omega
      .have tY:i<(xs++ys).length:=by simp;omega
       have hei:=f7L tY;have hjl:j<((xs++ys)[i]).length:=by
        have hm:(xs++ys)[i]∈xs++ys:=List.getElem_mem tY;rw[List.mem_append]at hm;rcases hm with hm|hm
        .rw[hlx _ hm];exact hj
        .rw[hly _ hm];exact hj
       obtain⟨_,v,hv,_⟩:=oV i j _ _ hei (f7L hjl);rw[hv];rfl
      .obtain⟨_,v,hv,hvd⟩:=oV i j c d hi' hj;rw[hv];exact hvd.bI q2
     .refine⟨.inr ⟨g,_,cap,cur',rfl,hbg,b6L,a4P,hcm,d1V,λoff c8Z hR=>?_⟩,λk o' hk=>by have:=a2y k o' hk;rw[b2x]at this;simpa[bF,show cap≠0 by omega]using this,vs,q3,λv' zS=>?_⟩
      .rcases hR with hR|⟨_,hR⟩
       .have:xs.length*P.cellsOf e'<=(xs.length+ys.length)*P.cellsOf e':=Nat.mul_le_mul_right _ (by omega);exact hnR off (by omega) hR
       .omega
      .have d1Y:bF (.slice (some ⟨g,0,none⟩) (xs.length+ys.length) cap)=some g:=by simp[bF];omega
       exact⟨λg' hg' c5K=>(yV v' zS).1 g' (by rw[b2x, <- d1Y];exact hg') c5K,λg' hg' c5K=>(yV v' zS).2 g' hg' (by rw[b2x, <- d1Y];exact c5K)⟩
    .obtain⟨R',n1,n2,n3,n4⟩:=a7G eM (e:=e') (z:=z) a0E hzs (xs:=xs) (ys:=ys) (olds:=olds) (news:=news) cap (by unfold maxLen;omega) hlx hly o1 h2 o3 h5 _ rfl;refine⟨_,_,R',μ,.inl (a4Q a w _ _ ?_),n1,.d _ _ n3,n4,n2⟩;rw[hsv];have:=run_append_grow_src (P:=P) w t t' o.type e' ti z hu hi hz (some ⟨g,0,none⟩) xs.length cap olds (run_firstCells_some w.drew ti.size xs.length ⟨g,0,none⟩ xs.length cap olds (by rw[o1,vN]) (by simpa using o2)) (a.eval x) ys.length news b6M (by omega) (by omega) (by rw[a7F];exact growslice_fits (by omega) hb2);rw[this];congr 3;apply Array.ext';simp[List.append_assoc]
 .cases h
end
end Go.VM
namespace Go.VM
open Go Go.RowKit
def CH(P:Program)(G:GT)(f:FuncId)(s0 s1:St):Prop:=
 ∀(base:cT) (R:Nat->Nat->Prop) (μ:Nat->Nat) (args:Array Value) (w:World),Rel P G base R μ s0 {tmps:=args,defers:=[]} w->
  Calls P f args w λe w'=>∃v R' μ',e=.returned v/\Rel P G base R' μ' s1 {tmps:=#[v],defers:=[]} w'/\Step base R w R' w'
def rk:List (Nat×Nat)->Nat->Nat
 |[],k=>k
 |p::r,k=>if p.1=k then p.2 else rk r k
mutual
def bA (K:List (Nat×Nat)):DV->DV
 | .ptr k o=>.ptr (rk K k) o
 | .mp k=>.mp (rk K k)
 | .it k=>.it (rk K k)
 | .clo f cs=>.clo f (aQ K cs)
 | .ag cs=>.ag (aQ K cs)
 |d=>d
def aQ (K:List (Nat×Nat)):List DV->List DV
 |[]=>[]
 |d::r=>bA K d::aQ K r
end
mutual
def aT (K:List (Nat×Nat)):DV->Bool
 | .ptr k _=>K.any λp=>p.1==k
 | .mp k=>K.any λp=>p.1==k
 | .it k=>K.any λp=>p.1==k
 | .clo _ cs=>aM K cs
 | .ag cs=>aM K cs
 |_=>true
def aM (K:List (Nat×Nat)):List DV->Bool
 |[]=>true
 |d::r=>aT K d&&aM K r
end
def cP(K:List (Nat×Nat)):aW->aW
 | .cells cs=>.cells (aQ K cs)
 |o=>o
def aN(K:List (Nat×Nat)):aW->Bool
 | .cells cs=>aM K cs
 |_=>true
theorem qQ(K:List (Nat×Nat)):∀l,aQ K l=l.map (bA K)
 |[]=>by simp[aQ]
 |d::r=>by simp[aQ,qQ K r]
theorem sI(K:List (Nat×Nat)):∀l,aM K l=true↔∀d∈l,aT K d=true
 |[]=>by simp[aM]
 |d::r=>by simp[aM,sI K r]
theorem a0F{K:List (Nat×Nat)}{k:Nat}(h:(K.any λp=>p.1==k)=true):∃p∈K,p.1=k/\rk K k=p.2:=by
 induction K with
 |nil=>simp at h
 |cons p r ih=>
  unfold rk;by_cases hp:p.1=k
  .exact⟨p,.head _,hp,by rw[if_pos hp]⟩
  .simp only[List.any_cons,f7T,beq_iff_eq,hp,false_or]at h;obtain⟨q,h1,h2,h3⟩:=ih h;exact⟨q,.tail _ h1,h2,by rw[if_neg hp];exact h3⟩
section
variable {P:Program} {G:GT} {R:Nat->Nat->Prop} {w:World} {K:List (Nat×Nat)} {μ ν:Nat->Nat}
theorem TV.ren{v:Value}{d:DV}(hν:∀k,(K.any λp=>p.1==k)=true->ν k=μ (rk K k)):aT K d=true->TV R μ w v (bA K d)->TV R ν w v d:=by
 intro hk h;generalize he:bA K d=d' at h
 induction h generalizing d with
 |d v x h=>cases d<;>simp only[bA]at he<;>cases he;exact .d v x h
 |undef v=>cases d<;>simp only[bA]at he<;>cases he;exact .undef v
 |ptr k off=>cases d<;>simp only[bA]at he<;>cases he;rw[<-hν _ (by simpa[aT]using hk)];exact .ptr _ off
 |ep b o cs h=>cases d<;>simp only[bA]at he<;>cases he;exact .ep b o cs h
 |mp k=>cases d<;>simp only[bA]at he<;>cases he;rw[<-hν _ (by simpa[aT]using hk)];exact .mp _
 |it k=>cases d<;>simp only[bA]at he<;>cases he;rw[<-hν _ (by simpa[aT]using hk)];exact .it _
 |bY vs ds h1 h2=>cases d<;>simp only[bA]at he<;>cases he;exact .bY vs ds h1 h2
 |fn f=>cases d<;>simp only[bA]at he<;>cases he;exact .fn f
 |oY b=>cases d<;>simp only[bA]at he<;>cases he;exact .oY b
 |yC T=>cases d<;>simp only[bA]at he<;>cases he;exact .yC T
 |clo f vs cs h1 h2 ih=>cases d<;>simp only[bA]at he<;>cases he;rename_i cs0;simp only[aT,sI]at hk;rw[qQ]at h1 ih;refine .clo f vs cs0 (by simpa using h1) λi c hi=>?_;exact ih i (bA K c) (by rw[f7R,hi];rfl) (hk c (f7M hi)) rfl
 |ag vs cs h1 h2 h3 h4 ih=>
  cases d<;>simp only[bA]at he<;>cases he;rename_i cs0;simp only[aT,sI]at hk;rw[qQ]at h1 h2 h3 ih;refine .ag vs cs0 (by simpa using h1) (λi hi=>h2 i (by simpa using hi)) (λi c hi=>?_) λi c hi=>?_
  .have:=h3 i (bA K c) (by rw[f7R,hi];rfl);rw[<-this];cases c<;>rfl
  .exact ih i (bA K c) (by rw[f7R,hi];rfl) (hk c (f7M hi)) rfl
theorem TV.b7O{v:Value}{d:DV}(hν:∀k,(K.any λp=>p.1==k)=true->ν k=μ (rk K k)):aT K d=true->TV R ν w v d->TV R μ w v (bA K d):=by
 intro hk h
 induction h with
 |d v x h=>exact .d v x h
 |undef v=>exact .undef v
 |ptr k off=>rw[hν _ (by simpa[aT]using hk)];exact .ptr _ off
 |ep b o cs h=>exact .ep b o cs h
 |mp k=>rw[hν _ (by simpa[aT]using hk)];exact .mp _
 |it k=>rw[hν _ (by simpa[aT]using hk)];exact .it _
 |bY vs ds h1 h2=>exact .bY vs ds h1 h2
 |fn f=>exact .fn f
 |oY b=>exact .oY b
 |yC T=>exact .yC T
 |clo f vs cs h1 h2 ih=>simp only[aT,sI]at hk;simp only[bA,qQ];refine .clo f vs _ (by simpa using h1) λi c hi=>?_;rw[f7R]at hi;obtain⟨c0,wL,rfl⟩:=f7G.1 hi;exact ih i c0 wL (hk c0 (f7M wL))
 |ag vs cs h1 h2 h3 h4 ih=>
  simp only[aT,sI]at hk;simp only[bA,qQ];refine .ag vs _ (by simpa using h1) (λi hi=>h2 i (by simpa using hi)) (λi c hi=>?_) λi c hi=>?_
  .rw[f7R]at hi;obtain⟨c0,wL,rfl⟩:=f7G.1 hi;have:=h3 i c0 wL;rw[<-this];cases c0<;>rfl
  .rw[f7R]at hi;obtain⟨c0,wL,rfl⟩:=f7G.1 hi;exact ih i c0 wL (hk c0 (f7M wL))
theorem b7P(d:DV):(bA K d).cell=d.cell:=by cases d<;>rfl
theorem eN.ren{b:Nat}{o:aW}(hν:∀k,(K.any λp=>p.1==k)=true->ν k=μ (rk K k))(hk:aN K o=true)(h:eN R μ w b (cP K o)):eN R ν w b o:=by
 cases o with
 |cells cs=>obtain⟨vs,T,h1,h2,h3,h4⟩:=h;rw[qQ]at h2 h3 h4;simp only[aN,sI]at hk;refine⟨vs,T,h1,by simpa using h2,λi d hi=>?_,λT' hm=>h4 T' (List.mem_map.2 ⟨_,hm,rfl⟩)⟩;obtain⟨q1,q2⟩:=h3 i (bA K d) (by rw[f7R,hi];rfl);exact⟨by rw[b7P]at q1;exact q1,q2.ren hν (hk d (f7M hi))⟩
 |map es=>exact h
 |iter s p=>exact h
 |bld T u es=>exact h
theorem eN.b7O{b:Nat}{o:aW}(hν:∀k,(K.any λp=>p.1==k)=true->ν k=μ (rk K k))(hk:aN K o=true)(h:eN R ν w b o):eN R μ w b (cP K o):=by
 cases o with
 |cells cs=>
  obtain⟨vs,T,h1,h2,h3,h4⟩:=h;simp only[aN,sI]at hk;refine⟨vs,T,h1,by simp[qQ,h2],λi d hi=>?_,λT' hm=>?_⟩
  .rw[qQ,f7R]at hi;obtain⟨d0,hd0,rfl⟩:=f7G.1 hi;exact⟨by rw[b7P];exact(h3 i d0 hd0).1,(h3 i d0 hd0).2.b7O hν (hk d0 (f7M hd0))⟩
  .rw[qQ]at hm;obtain⟨d0,hd0,he⟩:=List.mem_map.1 hm;cases d0<;>simp only[bA]at he<;>cases he;exact h4 _ hd0
 |map es=>exact h
 |iter s p=>exact h
 |bld T u es=>exact h
end
end Go.VM
end
