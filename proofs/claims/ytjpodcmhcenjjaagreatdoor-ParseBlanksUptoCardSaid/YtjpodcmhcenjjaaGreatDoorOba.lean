/- Lemmas that the law of this claim needs (Z1). No condition. -/
import Derived.WalkKit
import Derived.Laws.StructEq
import Derived.Laws.Strings2
import Derived.MapKept
import Derived.Deep.AppendSrc
set_option linter.unusedVariables false
set_option linter.unusedSimpArgs false
set_option linter.unusedSectionVars false
set_option maxRecDepth 100000
set_option maxHeartbeats 64000000
theorem f2M:type_of% @Option.map_eq_some_iff:=@Option.map_eq_some_iff
theorem f2N:type_of% @Bool.and_eq_true:=@Bool.and_eq_true
theorem f2O:type_of% @List.getElem?_eq_some_iff:=@List.getElem?_eq_some_iff
theorem f2P:type_of% @Array.getD_eq_getD_getElem?:=@Array.getD_eq_getD_getElem?
theorem f2Q:type_of% @List.all_eq_true:=@List.all_eq_true
theorem f2R:type_of% @List.getElem?_eq_getElem:=@List.getElem?_eq_getElem
theorem f2S:type_of% @List.mem_of_getElem?:=@List.mem_of_getElem?
theorem f2T:type_of% @Option.some.injEq:=@Option.some.injEq
theorem f2U:type_of% @List.mem_singleton:=@List.mem_singleton
theorem f2V:type_of% @List.getElem?_append_right:=@List.getElem?_append_right
theorem f2W:type_of% @Array.getElem?_eq_some_iff:=@Array.getElem?_eq_some_iff
theorem f2X:type_of% @List.getElem?_map:=@List.getElem?_map
theorem f2Y:type_of% @List.getElem?_append_left:=@List.getElem?_append_left
theorem f2Z:type_of% @Bool.or_eq_true:=@Bool.or_eq_true
theorem f3a:type_of% @List.drop_eq_getElem_cons:=@List.drop_eq_getElem_cons
theorem f3b:type_of% @Option.bind_eq_some_iff:=@Option.bind_eq_some_iff
theorem f3c:type_of% @List.take_succ_eq_append_getElem:=@List.take_succ_eq_append_getElem
theorem f3d:type_of% @Nat.le_refl:=@Nat.le_refl
theorem f3e:type_of% @List.getElem?_of_mem:=@List.getElem?_of_mem
theorem f3f:type_of% @Array.getElem?_eq_getElem:=@Array.getElem?_eq_getElem
theorem f3g:type_of% @List.getElem?_drop:=@List.getElem?_drop
section
namespace Go.VM
open Go Go.RowKit
inductive D where
 |int (k:IntKind) (n:Int)
 |bool (b:Bool)
 |str (s:List UInt8)
 |aJ
 |sl (es:List (List D))
 |agg (cs:List D)
inductive DV where
 |d (x:D)
 |undef
 |ptr (key off:Nat)
 |ep (cs:List D)
 |mp (key:Nat)
 |it (key:Nat)
 |cJ (ds:List D)
 |fn (f:FuncId)
 |pC
 |wL (T:TypeId)
 |clo (f:FuncId) (b5Z:List DV)
 |ag (cs:List DV)
inductive aW where
 |cells (cs:List DV)
 |map (es:List (D×D))
 |iter (s:List UInt8) (pos:Nat)
 |bld (T:TypeId) (u:Bool) (es:List (List D))
inductive Loc where
 |t (i:Nat)
 |c (key off:Nat)
 deriving DecidableEq
inductive OA where
 |no
 |al (l:Loc)
 |fresh (e:TypeId)
structure St where
 tmps:List DV
 H:List (Nat×aW)
 own:List (TypeId×List Loc)
def D.one:D->Bool
 | .agg _=>false
 |_=>true
def D.cells:D->List D
 | .agg cs=>cs
 |x=>[x]
def wM:Value->Option D
 | .int k n=>some (.int k n)
 | .bool b=>some (.bool b)
 | .string s=>some (.str s.data.toList)
 | .slice none 0 0=>some .aJ
 |_=>none
def vD:List Value->Option (List D)
 |[]=>some []
 |v::l=>match wM v,vD l with
  |some x,some ds=>some (x::ds)
  |_,_=>none
def ofConst:Value->DV
 | .agg cs=>match vD cs.toList with
  |some ds=>.d (.agg ds)
  |none=>.undef
 |v=>match wM v with
  |some x=>.d x
  |none=>.undef
abbrev GT:=Nat->Option (List D)
def St.eval(G:GT)(st:St):Operand->DV
 | .tmp t=>st.tmps.getD t (.cJ [])
 | .const v=>ofConst v
 | .global g=>match G g with
  |some cs=>.ep cs
  |none=>.undef
 | .func f=>.fn f
def getKey(k:Nat):List (Nat×aW)->Option aW
 |[]=>none
 |(k',o)::r=>if k'=k then some o else getKey k r
def yV(k:Nat)(o:aW):List (Nat×aW)->List (Nat×aW)
 |[]=>[]
 |(k',o')::r=>if k'=k then(k,o)::r else(k',o')::yV k o r
def kB(k:Nat)(o:aW):List (Nat×aW)->List (Nat×aW)
 |[]=>[(k,o)]
 |(k',o')::r=>if k<k' then(k,o)::(k',o')::r else(k',o')::kB k o r
def bU(k:Nat)(o:aW)(H:List (Nat×aW)):List (Nat×aW):=if (getKey k H).isSome then yV k o H else kB k o H
mutual
def mentions (key:Nat):DV->Bool
 | .ptr k _=>k==key
 | .mp k=>k==key
 | .it k=>k==key
 | .clo _ cs=>kP key cs
 | .ag cs=>kP key cs
 |_=>false
def kP (key:Nat):List DV->Bool
 |[]=>false
 |d::r=>mentions key d||kP key r
end
def jV(key:Nat)(d:DV):DV:=if mentions key d then .undef else d
def a0j(key:Nat):aW->aW
 | .cells cs=>.cells (cs.map (jV key))
 |o=>o
def cE(l:Loc)(own:List (TypeId×List Loc)):List (TypeId×List Loc):=own.map λc=>(c.1,c.2.filter λx=>decide (x≠l))
def Loc.wN(key:Nat):Loc->Bool
 | .c k _=>k==key
 |_=>false
def dropKey(key:Nat)(own:List (TypeId×List Loc)):List (TypeId×List Loc):=own.map λc=>(c.1,c.2.filter λx=> !x.wN key)
def addAlias(src dst:Loc)(own:List (TypeId×List Loc)):List (TypeId×List Loc):=own.map λc=>if c.2.contains src then(c.1,dst::c.2) else c
def dO(dst:Loc)(act:OA)(own:List (TypeId×List Loc)):List (TypeId×List Loc):=
 match act with
 | .no=>cE dst own
 | .al l=>if l=dst then own else addAlias l dst (cE dst own)
 | .fresh e=>(e,[dst])::cE dst own
def finish(st:St)(dst:Option Tmp)(v:DV)(act:OA):St:=
 match dst with
 |none=>st
 |some d=>{st with tmps:=st.tmps.set d v,own:=dO (.t d) act st.own}
def eG(st:St)(key:Nat)(o:aW):St:=
 {tmps:=st.tmps.map (jV key),H:=bU key o (st.H.map λp=>(p.1,a0j key p.2)),own:=dropKey key st.own}
def mS:TypeDesc->Bool
 | .struct _| .array _ _=>true
 |_=>false
def takeD(P:Program)(t:TypeId)(cs:List D):Option D:=
 match P.underlying t with
 |some d=>if mS d then(if P.cellsOf t<=cs.length then some (.agg (cs.take (P.cellsOf t))) else none) else cs.head?
 |none=>none
def b6a:Value->Bool
 | .pointer none=>true
 |_=>false
def cellOf(v:Value):DV:=match wM v with
 |some x=>.d x
 |none=>.undef
def a0k(t:TypeId)(v:Value):DV:=match wM v with
 |some x=>.d x
 |none=>if b6a v then .wL t else .undef
def b8g(P:Program)(t:TypeId):Option (List DV):=((P.info? t).bind (·.zero)).map λz=>z.cells.toList.map (a0k t)
def jA(P:Program)(t:TypeId):Option (List D):=((P.info? t).bind (·.zero)).bind λz=>vD z.cells.toList
def b8h(P:Program)(t:TypeId):Option (List DV):=((P.info? t).bind (·.zero)).bind λz=>if z.cells.toList.all (·.oneCell') then some (z.cells.toList.map cellOf) else none
def b0V:List DV->aW
 |[.wL T,.d .aJ]=>.bld T false []
 |cs=>.cells cs
def eJ(P:Program)(t:TypeId):Option TypeId:=
 match P.underlying t with
 |some (.slice e)=>some e
 |_=>none
def aH(P:Program)(t:TypeId)(i:Nat):Option (Nat×TypeId):=
 match P.underlying t with
 |some (.struct fs)=>(fs[i]?).map λf=>(f.offset,f.type)
 |_=>none
def d2m(op:BinOp):D->D->Option D
 | .int k a,.int k' b=>
  if k≠k' then none else
  match op with
  | .add=>some (.int k (k.wrap (a+b)))
  | .sub=>some (.int k (k.wrap (a-b)))
  | .mul=>some (.int k (k.wrap (a*b)))
  | .quo=>if b=0 then none else some (.int k (k.wrap (a.tdiv b)))
  | .rem=>if b=0 then none else some (.int k (a.tmod b))
  | .eql=>some (.bool (a==b))
  | .neq=>some (.bool (a !=b))
  | .lss=>some (.bool (decide (a<b)))
  | .leq=>some (.bool (decide (a<=b)))
  | .gtr=>some (.bool (decide (a>b)))
  | .geq=>some (.bool (decide (a>=b)))
  |_=>none
 | .str a,.str b=>
  match op with
  | .add=>if a.length+b.length<=9223372036854775807 then some (.str (a++b)) else none
  | .eql=>some (.bool (a==b))
  | .neq=>some (.bool !(a==b))
  | .lss=>some (.bool (Op.bytesLess a b))
  | .leq=>some (.bool (Op.bytesLess a b||a==b))
  | .gtr=>some (.bool !(Op.bytesLess a b||a==b))
  | .geq=>some (.bool !(Op.bytesLess a b))
  |_=>none
 |_,_=>none
def yW:D->D->Option Bool
 | .int k a,.int k' b=>if k=k' then some (a==b) else none
 | .str a,.str b=>some (a==b)
 | .bool a,.bool b=>some (a==b)
 |_,_=>none
def xY:List D->List D->Option Bool
 |[],[]=>some true
 |x::xs,y::ys=>match yW x y,xY xs ys with
  |some a,some b=>some (a&&b)
  |_,_=>none
 |_,_=>none
def pD:TypeDesc->Bool
 | .bool| .int _| .string=>true
 |_=>false
def a1q(P:Program):Nat->List Field->Option (List TypeDesc)
 |_,[]=>some []
 |k,f::fs=>match P.underlying f.type,a1q P (k+1) fs with
  |some d,some ds=>if f.name≠ "_" /\f.offset=k/\pD d=true then some (d::ds) else none
  |_,_=>none
def a1r(P:Program)(t:TypeId):Option (List TypeDesc):=
 match P.underlying t with
 |some (.struct fs)=>if P.eqGuardType P.depth t=false/\P.stoodInHeld t=false then a1q P 0 fs.toList else none
 |_=>none
def qK:TypeDesc->D->Bool
 | .int _,.int _ _=>true
 | .string,.str _=>true
 | .bool,.bool _=>true
 |_,_=>false
def wO:List TypeDesc->List D->Bool
 |[],[]=>true
 |d::ds,x::xs=>qK d x&&wO ds xs
 |_,_=>false
def c1r:UnOp->D->Option D
 | .neg,.int k n=>some (.int k (k.wrap (0-n)))
 | .not,.bool b=>some (.bool !b)
 |_,_=>none
def overwrite{α:Type}(cells:List α)(off:Nat)(vs:List α):List α:=cells.take off++vs++cells.drop (off+vs.length)
def b4F(P:Program)(t:TypeId)(cells:List D):List (Nat×D)->Option (List D)
 |[]=>some cells
 |(i,v)::rest=>
  match aH P t i with
  |none=>none
  |some (off,u)=>if v.cells.length=P.cellsOf u/\off+v.cells.length<=cells.length then b4F P t (overwrite cells off v.cells) rest else none
def isD:DV->Option D
 | .d x=>some x
 |_=>none
def vE:List DV->Option (List D)
 |[]=>some []
 | .d x::l=>match vE l with
  |some ds=>some (x::ds)
  |none=>none
 |_::_=>none
def DV.cell:DV->Bool
 | .d x=>x.one
 | .it _=>false
 | .cJ _=>false
 | .ag _=>false
 |_=>true
def b4G:DV->Bool
 | .wL _=>false
 |_=>true
def sT:DV->Option (List DV)
 | .d y=>some (y.cells.map .d)
 | .ptr k o=>some [.ptr k o]
 | .ep cs=>some [.ep cs]
 | .mp k=>some [.mp k]
 | .fn f=>some [.fn f]
 | .clo f cs=>some [.clo f cs]
 | .ag cs=>if cs.all b4G then some cs else none
 | .pC=>some [.pC]
 |_=>none
def b4H:DV->Bool
 | .undef=>false
 | .wL _=>false
 |c=>c.cell
def takeA(cs:List DV):Option DV:=match vE cs with
 |some ds=>some (.d (.agg ds))
 |none=>if cs.all b4H then some (.ag cs) else none
def a9o(P:Program)(t:TypeId)(cs:List DV):Option DV:=
 match P.underlying t with
 |some d=>if mS d then(if P.cellsOf t<=cs.length then takeA (cs.take (P.cellsOf t)) else none) else cs.head?
 |none=>none
def a0U(G:GT)(st:St):List (Nat×Operand)->Option (List (Nat×D))
 |[]=>some []
 |(i,x)::l=>match st.eval G x,a0U G st l with
  | .d y,some ds=>some ((i,y)::ds)
  |_,_=>none
def xB(G:GT)(st:St):List (Nat×Operand)->Option (List (Nat×List DV))
 |[]=>some []
 |(i,x)::l=>match sT (st.eval G x),xB G st l with
  |some y,some ds=>some ((i,y)::ds)
  |_,_=>none
def a6T(P:Program)(t:TypeId)(cells:List DV):List (Nat×List DV)->Option (List DV)
 |[]=>some cells
 |(i,v)::rest=>
  match aH P t i with
  |none=>none
  |some (off,u)=>if v.length=P.cellsOf u/\off+v.length<=cells.length then a6T P t (overwrite cells off v) rest else none
def sU:Operand->OA
 | .tmp s=>.al (.t s)
 |_=>.no
def idx(x:D)(n:Nat):Option Nat:=
 match x with
 | .int _ i=>if 0<=i/\i<n then some i.toNat else none
 |_=>none
def bound(x:D)(n:Nat):Option Nat:=
 match x with
 | .int _ i=>if 0<=i/\i<=n then some i.toNat else none
 |_=>none
def eP(G:GT)(st:St)(x:Option Operand)(c4K n:Nat):Option Nat:=
 match x with
 |none=>some c4K
 |some y=>match st.eval G y with
  | .d z=>bound z n
  |_=>none
structure Out where
 v:DV
 act:OA
 st:St
def findKeyD(k:D):List (D×D)->Option (Option D)
 |[]=>some none
 |(k',v)::r=>match yW k k' with
  |some true=>some (some v)
  |some false=>findKeyD k r
  |none=>none
def a4x(k v:D):List (D×D)->Option (List (D×D))
 |[]=>some [(k,v)]
 |(k',v')::r=>match yW k k' with
  |some true=>some ((k,v)::r)
  |some false=>match a4x k v r with
   |some r'=>some ((k',v')::r')
   |none=>none
  |none=>none
def a4y(k:D):List (D×D)->Option (List (D×D))
 |[]=>some []
 |(k',v')::r=>match yW k k' with
  |some true=>some r
  |some false=>match a4y k r with
   |some r'=>some ((k',v')::r')
   |none=>none
  |none=>none
end Go.VM
namespace Go.VM
open Go Go.RowKit
section
variable (P:Program) (G:GT)
def qV(v:DV)(a:OA):OA:=
 match v with
 | .d (.sl _)=>a
 |_=>.no
def a1s(x:Operand)(st:St):Option Out:=some ⟨st.eval G x,qV (st.eval G x) (sU x),st⟩
def b0W(c a b:Operand)(st:St):Option Out:=
 match st.eval G c with
 | .d (.bool t)=>some ⟨if t then st.eval G a else st.eval G b,.no,st⟩
 |_=>none
def a8s(dst:Option Tmp)(e:TypeId)(st:St):Option Out:=
 match dst,jA P e with
 |some d,some cs=>if d<100000 then some ⟨.ptr d 0,.no,eG st d (.cells (cs.map .d))⟩ else none
 |some d,none=>
  match b8g P e with
  |some cs=>if d<100000 then some ⟨.ptr d 0,.no,eG st d (b0V cs)⟩ else none
  |none=>none
 |_,_=>none
def d2n(dst:Option Tmp)(x:Operand)(st:St):Option Out:=
 match dst,sT (st.eval G x)with
 |some d,some cs=>if decide (d<100000)&&(cs.all λc=> !mentions d c) then some ⟨.ptr d 0,.no,eG st d (.cells cs)⟩ else none
 |_,_=>none
def a4z(fn:Fn)(first captured:Array Operand)(st:St):Option Out:=
 match fn with
 | .func f=>if first.isEmpty then some ⟨if captured.isEmpty then .fn f else .clo f (captured.toList.map (st.eval G)),.no,st⟩ else none
 |_=>none
def cW(t:TypeId):Bool:=
 match P.underlying t with
 |some (.struct fs)=>fs.toList.all λf=>(P.info? f.type).isSome
 |_=>false
def a4A(t:TypeId)(parts:Array (Nat×Operand))(st:St):Option Out:=
 match b8h P t,xB G st parts.toList with
 |some z,some ps=>(a6T P t z ps).map λcs=>⟨.ag cs,.no,st⟩
 |_,_=>none
def a5Q(t:TypeId)(parts:Array (Nat×Operand))(st:St):Option Out:=
 if cW P t then
  match jA P t,a0U G st parts.toList with
  |some z,some ps=>(b4F P t z ps).map λcs=>⟨.d (.agg cs),.no,st⟩
  |_,_=>a4A P G t parts st
 else none
def eY(e:TypeId):Bool:=
 match P.info? e with
 |some i=>decide (0<i.size)&&(match i.zero with|some z=>z.cells.size==i.size|none=>false)
 |none=>false
def qW(t:TypeId)(len:Nat)(parts:Array (Nat×Operand))(st:St):Option Out:=
 match eJ P t,a0U G st parts.toList with
 |some e,some ps=>
  if eY P e&&(ps.map (·.1)==List.range len)&&(ps.all λp=>p.2.cells.length==P.cellsOf e)&&decide (len*P.cellsOf e<=2 ^ 24) then
   some ⟨.d (.sl (ps.map λp=>p.2.cells)),.fresh e,st⟩
  else none
 |_,_=>none
def a9p(t:TypeId)(x:Operand)(st:St):Option Out:=
 match st.eval G x with
 | .ptr k off=>
  match getKey k st.H with
  |some (.cells cs)=>(a9o P t (cs.drop off)).map λy=>⟨y,qV y (.al (.c k off)),st⟩
  |_=>none
 | .ep cs=>(takeD P t cs).map λy=>⟨.d y,.no,st⟩
 |_=>none
def qE(t:TypeId)(a x:Operand)(st:St):Option Out:=
 match st.eval G a,sT (st.eval G x)with
 | .ptr k off,some ys=>
  match getKey k st.H with
  |some (.cells cs)=>
   if ys.length=P.cellsOf t/\P.cellsOf t≠0/\off+ys.length<=cs.length then
    some ⟨.cJ [],.no,{st with H:=bU k (.cells (overwrite cs off ys)) st.H,own:=if (st.eval G x).cell then dO (.c k off) (qV (st.eval G x) (sU x)) st.own else dropKey k st.own}⟩
   else none
  |_=>none
 |_,_=>none
def tG(x:Operand)(st:St):Option Out:=
 match st.eval G x with
 | .ptr k off=>some ⟨.ptr k off,.no,st⟩
 | .ep cs=>some ⟨.ep cs,.no,st⟩
 | .fn f=>some ⟨.fn f,.no,st⟩
 | .clo f cs=>some ⟨.clo f cs,.no,st⟩
 |_=>none
def c7k(op:BinOp)(t:TypeId)(a b:D):Option D:=
 match a,b with
 | .bool x,.bool y=>
  match P.underlying t,op with
  |some .bool,.eql=>some (.bool (x==y))
  |some .bool,.neq=>some (.bool !(x==y))
  |_,_=>none
 | .agg xs,.agg ys=>
  match a1r P t with
  |some ds=>
   if wO ds xs then
    match op,xY xs ys with
    | .eql,some r=>some (.bool r)
    | .neq,some r=>some (.bool !r)
    |_,_=>none
   else none
  |none=>none
 |a,b=>d2m op a b
def c1s(op:BinOp)(t:TypeId)(x y:Operand)(st:St):Option Out:=
 match st.eval G x,st.eval G y with
 | .d a,.d b=>(c7k P op t a b).map λc=>⟨.d c,.no,st⟩
 |_,_=>none
def b6b:Operand->Bool
 | .const (.slice none 0 0)=>true
 |_=>false
def yX(op:BinOp)(t:TypeId)(x:Operand)(st:St):Option Out:=
 match P.underlying t,op,st.eval G x with
 |some (.slice _),.eql,.d (.sl es)=>some ⟨if es.length=0 then .pC else .d (.bool false),.no,st⟩
 |some (.slice _),.neq,.d (.sl es)=>some ⟨if es.length=0 then .pC else .d (.bool true),.no,st⟩
 |some (.slice _),.eql,.d .aJ=>some ⟨.pC,.no,st⟩
 |some (.slice _),.neq,.d .aJ=>some ⟨.pC,.no,st⟩
 |_,_,_=>none
def b0X(op:BinOp)(t:TypeId)(x y:Operand)(st:St):Option Out:=if b6b y then yX P G op t x st else c1s P G op t x y st
def vUn(op:UnOp)(x:Operand)(st:St):Option Out:=
 match st.eval G x with
 | .d a=>(c1r op a).map λc=>⟨.d c,.no,st⟩
 |_=>none
def vF:List (List D)->Option (List UInt8)
 |[]=>some []
 |[.int .u8 n]::l=>(vF l).map λbs=>UInt8.ofNat n.toNat::bs
 |_=>none
def c4L(e:TypeId):Bool:=
 match P.underlying e with
 |some (.int .u8)=>true
 |_=>false
def c3p(src dst:TypeId)(a:D):Option D:=
 match P.underlying src,P.underlying dst,a with
 |some _,some (.int k),.int _ n=>some (.int k (k.wrap n))
 |some _,some .string,.str s=>some (.str s)
 |some (.slice e),some .string,.sl es=>if c4L P e then(vF es).map .str else none
 |some (.slice e),some .string,.aJ=>if c4L P e then some (.str []) else none
 |_,_,_=>none
def b0Y(src dst:TypeId)(x:Operand)(st:St):Option Out:=
 match st.eval G x with
 | .d a=>(c3p P src dst a).map λc=>⟨.d c,.no,st⟩
 |_=>none
def a6U(dst:Option Tmp)(r:Option Operand)(st:St):Option Out:=
 match dst,r with
 |some d,none=>if d<100000 then some ⟨.mp d,.no,eG st d (.map [])⟩ else none
 |_,_=>none
def b8i(t:TypeId):Option D:=((P.info? t).bind (·.zero)).bind λz=>isD (ofConst z)
def mapOf(t:TypeId):Option (TypeId×TypeId):=
 match P.underlying t with
 |some (.map k e)=>(match P.underlying k with|some d=>if pD d then some (k,e) else none|none=>none)
 |_=>none
def rL(t:TypeId)(k:D):Bool:=
 match P.underlying t with
 |some d=>qK d k
 |none=>false
def a4B(t:TypeId)(m k:Operand)(ok:Bool)(st:St):Option Out:=
 match mapOf P t,st.eval G m,st.eval G k with
 |some (kt,e),.mp key,.d kk=>
  match getKey key st.H,b8i P e,rL P kt kk with
  |some (.map es),some z,true=>(findKeyD kk es).map λr=>⟨if ok then .cJ [r.getD z,.bool r.isSome] else .d (r.getD z),.no,st⟩
  |_,_,_=>none
 |_,_,_=>none
def yY(t:TypeId)(m k v:Operand)(st:St):Option Out:=
 match mapOf P t,st.eval G m,st.eval G k,st.eval G v with
 |some (kt,_),.mp key,.d kk,.d x=>
  match getKey key st.H,rL P kt kk with
  |some (.map es),true=>(a4x kk x es).map λes'=>⟨.cJ [],.no,{st with H:=bU key (.map es') st.H}⟩
  |_,_=>none
 |_,_,_,_=>none
def yZ(x:Operand)(i:Nat)(st:St):Option Out:=
 match st.eval G x with
 | .cJ ds=>(ds[i]?).map λy=>⟨.d y,.no,st⟩
 |_=>none
def a5R(t:TypeId)(x:Operand)(i:Nat)(st:St):Option Out:=
 match st.eval G x,aH P t i with
 | .d (.agg cs),some (off,u)=>(takeD P u (cs.drop off)).map λy=>⟨.d y,.no,st⟩
 |_,_=>none
def a5S(t:TypeId)(x i:Operand)(st:St):Option Out:=
 match P.underlying t,st.eval G x,st.eval G i with
 |some .string,.d (.str s),.d n=>(idx n s.length).bind λj=>(s[j]?).map λb=>⟨.d (.int .u8 b.toNat),.no,st⟩
 |some (.array len e),.d (.agg cs),.d n=>(idx n len).bind λj=>(takeD P e (cs.drop (j*P.cellsOf e))).map λy=>⟨.d y,.no,st⟩
 |_,_,_=>none
def qX(t:TypeId)(x i:Operand)(st:St):Option Out:=
 match P.underlying t,st.eval G x,st.eval G i with
 |some (.slice e),.d (.sl es),.d n=>(idx n es.length).bind λj=>(es[j]?).bind λcs=>if cs.length=P.cellsOf e then some ⟨.ep cs,.no,st⟩ else none
 |some (.array len e),.ptr k off,.d n=>if P.cellsOf e=0 then none else(idx n len).map λj=>⟨.ptr k (off+j*P.cellsOf e),.no,st⟩
 |some (.array len e),.ep cs,.d n=>if P.cellsOf e=0 then none else(idx n len).map λj=>⟨.ep (cs.drop (j*P.cellsOf e)),.no,st⟩
 |_,_,_=>none
def qY(t:TypeId)(x:Operand)(i:Nat)(st:St):Option Out:=
 match aH P t i with
 |some (off,u)=>
  if P.cellsOf u=0 then none else
  match st.eval G x with
  | .ptr k o=>some ⟨.ptr k (o+off),.no,st⟩
  | .ep cs=>some ⟨.ep (cs.drop off),.no,st⟩
  |_=>none
 |none=>none
def a5T(t:TypeId)(x:Operand)(lo hi mx:Option Operand)(st:St):Option Out:=
 match P.underlying t,st.eval G x,mx with
 |some .string,.d (.str s),none=>(eP G st hi s.length s.length).bind λh=>(eP G st lo 0 h).map λl=>⟨.d (.str ((s.take h).drop l)),.no,st⟩
 |some (.slice e),.d (.sl es),none=>
  if P.cellsOf e≠0/\(es.all λc=>c.length==P.cellsOf e)=true then
   (eP G st hi es.length es.length).bind λh=>(eP G st lo 0 h).map λl=>⟨.d (.sl ((es.take h).drop l)),.no,st⟩
  else none
 |some (.slice e),.d .aJ,none=>if P.cellsOf e≠0 then(eP G st hi 0 0).bind λh=>(eP G st lo 0 h).map λ_=>⟨.d .aJ,.no,st⟩ else none
 |some (.slice e),.d (.sl _),some m=>if P.cellsOf e≠0/\lo.isNone=true/\eP G st hi 1 0=some 0/\eP G st (some m) 1 0=some 0 then some ⟨.d .aJ,.no,st⟩ else none
 |some (.slice e),.d .aJ,some m=>if P.cellsOf e≠0/\lo.isNone=true/\eP G st hi 1 0=some 0/\eP G st (some m) 1 0=some 0 then some ⟨.d .aJ,.no,st⟩ else none
 |_,_,_=>none
def b6c(dst:Option Tmp)(t:TypeId)(x:Operand)(st:St):Option Out:=
 match dst,P.underlying t,st.eval G x with
 |some d,some .string,.d (.str s)=>if d<100000 then some ⟨.it d,.no,eG st d (.iter s 0)⟩ else none
 |_,_,_=>none
def c3q(it:Operand)(isString:Bool)(st:St):Option Out:=
 match st.eval G it,isString with
 | .it k,true=>
  match getKey k st.H with
  |some (.iter s pos)=>
   if pos<s.length then
    some ⟨.cJ [.bool true,.int .i64 pos,.int .i32 (Utf8.decode ⟨s.toArray⟩ pos).1],.no,{st with H:=bU k (.iter s (pos+(Utf8.decode ⟨s.toArray⟩ pos).2)) st.H}⟩
   else some ⟨.cJ [.bool false],.no,st⟩
  |_=>none
 |_,_=>none
def c4M(t:TypeId)(x:Operand)(st:St):Option Out:=
 match P.underlying t,st.eval G x with
 |some .string,.d (.str s)=>some ⟨.d (.int .i64 s.length),.no,st⟩
 |some (.slice _),.d (.sl es)=>some ⟨.d (.int .i64 es.length),.no,st⟩
 |some (.slice _),.d .aJ=>some ⟨.d (.int .i64 0),.no,st⟩
 |some (.map _ _),.mp k=>
  match getKey k st.H with
  |some (.map es)=>some ⟨.d (.int .i64 es.length),.no,st⟩
  |_=>none
 |_,_=>none
def eV(l:Loc):List (TypeId×List Loc)->Option (TypeId×List (TypeId×List Loc))
 |[]=>none
 |c::r=>if c.2.contains l then some (c.1,r) else(eV l r).map λ(e,r')=>(e,c::r')
def d2o:DV->Option (List (List D))
 | .d (.sl es)=>some es
 | .d .aJ=>some []
 |_=>none
def b6d(t t':TypeId)(v:DV):Option (List (List D)):=
 if t=t' then d2o v else
 match P.underlying t',eJ P t,v with
 |some .string,some e,.d (.str s)=>if c4L P e/\P.cellsOf e=1 then some (s.map λb=>[D.int .u8 b.toNat]) else none
 |_,_,_=>none
def a1T(t t':TypeId)(s x:Operand)(st:St):Option Out:=
 match eJ P t,b6d P t t' (st.eval G x)with
 |some e,some ys=>
  if eY P e=true/\(ys.all λc=>c.length==P.cellsOf e)=true then
   match st.eval G s,s with
   | .d .aJ,_=>if ys.length*(P.bytesOf e+1)<=140737488355328 then some ⟨.d (.sl ys),.fresh e,st⟩ else none
   | .d (.sl xs),.tmp i=>
    match eV (.t i) st.own with
    |some (e',dP)=>
     if e'=e/\(xs.all λc=>c.length==P.cellsOf e)=true/\(xs.length+ys.length)*(P.bytesOf e+1)<=140737488355328 then
      some ⟨.d (.sl (xs++ys)),.fresh e,{st with own:=dP}⟩
     else none
    |none=>none
   |_,_=>none
  else none
 |_,_=>none
def b0G(t:TypeId)(m k:Operand)(st:St):Option Out:=
 match mapOf P t,st.eval G m,st.eval G k with
 |some (kt,_),.mp key,.d kk=>
  match getKey key st.H,rL P kt kk with
  |some (.map es),true=>(a4y kk es).map λes'=>⟨.cJ [],.no,{st with H:=bU key (.map es') st.H}⟩
  |_,_=>none
 |_,_,_=>none
def c4N(x y:Operand)(st:St):Option Out:=
 match st.eval G x,st.eval G y with
 | .d (.int k a),.d (.int _ b)=>some ⟨.d (.int k (if b>a then b else a)),.no,st⟩
 |_,_=>none
def c4O(x y:Operand)(st:St):Option Out:=
 match st.eval G x,st.eval G y with
 | .d (.int k a),.d (.int _ b)=>some ⟨.d (.int k (if b<a then b else a)),.no,st⟩
 |_,_=>none
def qZ(b:Builtin)(args:List Operand)(ts:List TypeId)(st:St):Option Out:=
 match b,args,ts with
 | .len,[x],[t]=>c4M P G t x st
 | .append,[s,x],[t,t']=>a1T P G t t' s x st
 | .delete,[m,k],t::_=>b0G P G t m k st
 | .max,[x,y],_=>c4N G x y st
 | .min,[x,y],_=>c4O G x y st
 |_,_,_=>none
def jT(o:Oper)(st:St):Option Out:=
 match o.op with
 | .move x=>a1s G x st
 | .assign x=>a1s G x st
 | .pick c a b=>b0W G c a b st
 | .alloc e=>a8s P o.dst e st
 | .box _ x=>d2n G o.dst x st
 | .build t parts=>a5Q P G t parts st
 | .buildSlice t len parts=>qW P G t len parts st
 | .load t x=>a9p P G t x st
 | .store t a x=>qE P G t a x st
 | .nilCheck x=>tG G x st
 | .binOp op t x y _=>b0X P G op t x y st
 | .unOp op _ x=>vUn G op x st
 | .convert src dst x=>b0Y P G src dst x st
 | .makeMap _ r=>a6U o.dst r st
 | .makeFunc fn first captured=>a4z G fn first captured st
 | .lookup t m k ok=>a4B P G t m k ok st
 | .mapUpdate t m k v=>yY P G t m k v st
 | .extract x i=>yZ G x i st
 | .field t x i=>a5R P G t x i st
 | .index t x i=>a5S P G t x i st
 | .indexAddr t x i=>qX P G t x i st
 | .fieldAddr t x i=>qY P G t x i st
 | .slice t x lo hi mx=>a5T P G t x lo hi mx st
 | .range t x=>b6c P G o.dst t x st
 | .next it b=>c3q G it b st
 | .call {callee:=.builtin b,args,argTypes}=>qZ P G b args.toList argTypes.toList st
 |_=>none
def gJ(o:Oper)(st:St):Option (FuncId×List D):=
 match o.op with
 | .call {callee:=.value x,args, .. }=>
  match st.eval G x,vE (args.toList.map (st.eval G))with
  | .fn f,some ds=>some (f,ds)
  |_,_=>none
 |_=>none
def cR(o:Oper)(st:St):Option (FuncId×List DV):=
 match o.op with
 | .call {callee:=.value x,args, .. }=>
  match st.eval G x with
  | .fn f=>some (f,args.toList.map (st.eval G))
  | .clo f cs=>some (f,args.toList.map (st.eval G)++cs)
  |_=>none
 |_=>none
def a3m:Operand->Option Loc
 | .tmp t=>some (.t t)
 |_=>none
def jL(o:Oper):List (Option Loc):=
 match o.op with
 | .call {args, .. }=>args.toList.map a3m
 |_=>[]
def sH(ops:Array Oper)(tmps:List DV)(j:Nat):DV:=(((ops[j]?).bind (·.dst)).bind (tmps[·]?)).getD (.cJ [])
def dJ(o:Oper)(ops:Array Oper)(tmps:List DV):Option Bool:=
 match o.guard with
 |none=>some true
 |some (j,want)=>
  match sH ops tmps j with
  | .undef=>none
  | .pC=>none
  | .d (.bool b)=>some (b==want)
  |_=>some false
end
end Go.VM
namespace Go.VM
open Go Go.RowKit
structure cN where
 e5N:Nat->Prop
 home:Nat->Nat
instance:CoeFun cN λ_=>Nat->Prop:=⟨cN.e5N⟩
inductive V (R:Nat->Nat->Prop) (w:World):Value->D->Prop
 |int (k:IntKind) (n:Int):V R w (.int k n) (.int k n)
 |bool (b:Bool):V R w (.bool b) (.bool b)
 |str (s:List UInt8):V R w (.string ⟨s.toArray⟩) (.str s)
 |aJ (ao:Option Addr):V R w (.slice ao 0 0) .aJ
 |emp (ao:Option Addr) (cap:Nat):V R w (.slice ao 0 cap) (.sl [])
 |sl (b o n cap size:Nat) (es:List (List D)) (f:Nat->Nat->Value):n=es.length->n<=cap->0<size->(∀e∈es,e.length=size)->
   (∀(i j:Nat),i<n->j<size->R b (o+i*size+j)/\w.cell? ⟨b,o+i*size+j,none⟩=some (f i j))->
   (∀(i j:Nat) (e:List D) (d:D),es[i]? =some e->e[j]? =some d->d.one=true)->
   (∀(i j:Nat) (e:List D) (d:D),es[i]? =some e->e[j]? =some d->V R w (f i j) d)->V R w (.slice (some ⟨b,o,none⟩) n cap) (.sl es)
 |agg (cs:Array Value) (ds:List D):cs.size=ds.length->(∀(i:Nat) (d:D),ds[i]? =some d->d.one=true)->(∀(i:Nat) (d:D),ds[i]? =some d->V R w (cs.getD i undef) d)->V R w (.agg cs) (.agg ds)
def Run(R:Nat->Nat->Prop)(w:World)(b o:Nat)(cs:List D):Prop:=
 ∀(j:Nat) (d:D),cs[j]? =some d->d.one=true/\R b (o+j)/\∃v,w.cell? ⟨b,o+j,none⟩=some v/\V R w v d
theorem b4I{v:Value}(h:b6a v=true):v=.pointer none:=by
 unfold b6a at h;split at h
 .rfl
 .cases h
inductive TV (R:Nat->Nat->Prop) (μ:Nat->Nat) (w:World):Value->DV->Prop
 |d (v:Value) (x:D):V R w v x->TV R μ w v (.d x)
 |undef (v:Value):TV R μ w v .undef
 |ptr (k off:Nat):TV R μ w (.pointer (some ⟨μ k,off,none⟩)) (.ptr k off)
 |ep (b o:Nat) (cs:List D):Run R w b o cs->TV R μ w (.pointer (some ⟨b,o,none⟩)) (.ep cs)
 |mp (k:Nat):TV R μ w (.map (some (μ k))) (.mp k)
 |it (k:Nat):TV R μ w (.pointer (some ⟨μ k,0,none⟩)) (.it k)
 |cJ (vs:Array Value) (ds:List D):vs.size=ds.length->(∀(i:Nat) (d:D),ds[i]? =some d->V R w (vs.getD i Go.undef) d)->TV R μ w (.tuple vs) (.cJ ds)
 |fn (f:FuncId):TV R μ w (.func (.func f) #[] #[]) (.fn f)
 |pC (b:Bool):TV R μ w (.bool b) .pC
 |wL (T:TypeId):TV R μ w (.pointer none) (.wL T)
 |clo (f:FuncId) (vs:Array Value) (cs:List DV):vs.size=cs.length->(∀(i:Nat) (c:DV),cs[i]? =some c->TV R μ w (vs.getD i Go.undef) c)->TV R μ w (.func (.func f) #[] vs) (.clo f cs)
 |ag (vs:Array Value) (cs:List DV):vs.size=cs.length->(∀i,i<cs.length->(vs.getD i Go.undef).oneCell'=true)->(∀(i:Nat) (c:DV),cs[i]? =some c->c.cell=true)->(∀(i:Nat) (c:DV),cs[i]? =some c->TV R μ w (vs.getD i Go.undef) c)->TV R μ w (.agg vs) (.ag cs)
def d7O(v:Value):Prop:=v=.slice none 0 0\/∃ao n cap,v=.slice ao n cap/\cap≠0
def a1U(T:TypeId)(cs:List DV):Prop:=∀T',DV.wL T'∈cs->T=T'
theorem a1U.b8j{T:TypeId}{cs:List DV}(h:cs.all b4G=true):a1U T cs:=λT' hm=>by have:=f2Q.1 h _ hm;cases this
def gK(R:Nat->Nat->Prop)(μ:Nat->Nat)(w:World)(b:Nat):aW->Prop
 | .cells cs=>∃vs T,w.heap[b]? =some (.cells vs T (0,0))/\vs.size=cs.length/\(∀(i:Nat) (d:DV),cs[i]? =some d->d.cell=true/\TV R μ w (vs.getD i undef) d)/\a1U T cs
 | .map es=>∃oC clock,w.heap[b]? =some (.map oC clock)/\oC.size=es.length/\∀(i:Nat) (k v:D),es[i]? =some (k,v)->V R w ((oC.getD i default).key) k/\V R w ((oC.getD i default).val) v
 | .iter s pos=>w.heap[b]? =some (.stringIter ⟨s.toArray⟩ pos)
 | .bld T u es=>∃v0 v1 T',w.heap[b]? =some (.cells #[v0,v1] T' (0,0))/\(u=false->T'=T/\v1=.slice none 0 0)/\v0=(if u then .pointer (some ⟨b,0,none⟩) else .pointer none)/\V R w v1 (.sl es)/\d7O v1
def bF:Value->Option Nat
 | .slice (some a) _ cap=>if cap=0 then none else some a.block
 |_=>none
def oK(P:Program)(base:cN)(R:Nat->Nat->Prop)(w:World)(e:TypeId)(v:Value):Prop:=
 (∃ao,v=.slice ao 0 0)\/
 ∃g n cap cur,v=.slice (some ⟨g,0,none⟩) n cap/\base g/\w.heap[g]? =some (.cells cur e (0,0))/\n<=cap/\cap<=maxLen/\cur.size=cap*P.cellsOf e/\∀off,n*P.cellsOf e<=off-> ¬R g off
def bZ(a:Act)(w:World)(μ:Nat->Nat):Loc->Option Value
 | .t i=>a.tmps[i]?
 | .c k off=>w.cell? ⟨μ k,off,none⟩
structure a1V (P:Program) (base:cN) (R:Nat->Nat->Prop) (μ:Nat->Nat) (st:St) (a:Act) (w:World) (c:TypeId×List Loc) (v:Value):Prop where
 dF:∀l∈c.2,∀u,bZ a w μ l=some u->u=v
 own:oK P base R w c.1 v
 keys:∀k o,getKey k st.H=some o->bF v≠some (μ k)
def a2E(v v':Value):Prop:=∀g,bF v=some g->bF v'≠some g
structure zA (P:Program) (base:cN) (R:Nat->Nat->Prop) (μ:Nat->Nat) (st:St) (a:Act) (w:World) (vs:List Value):Prop where
 len:vs.length=st.own.length
 one:∀(i:Nat) (c:TypeId×List Loc) (v:Value),st.own[i]? =some c->vs[i]? =some v->a1V P base R μ st a w c v
 apart:vs.Pairwise a2E
def a5c(G:GT)(base:cN)(R:Nat->Nat->Prop)(w:World):Prop:=∀g cs,G g=some cs->Run R w g 0 cs/\ ¬base g/\∃arr T fr,w.heap[g]? =some (.cells arr T fr)/\arr.size=cs.length
structure Rel (P:Program) (G:GT) (bs:cN) (R:Nat->Nat->Prop) (μ:Nat->Nat) (st:St) (a:Act) (w:World):Prop where
 defers:a.defers=[]
 size:a.tmps.size=st.tmps.length
 tmps:∀(i:Nat) (v:Value) (d:DV),a.tmps[i]? =some v->st.tmps[i]? =some d->TV R μ w v d
 gM:∀k o,getKey k st.H=some o->bs (μ k)/\(∀off, ¬R (μ k) off)/\gK R μ w (μ k) o
 inj:∀k k' o o',getKey k st.H=some o->getKey k' st.H=some o'->μ k=μ k'->k=k'
 dF:∀c∈st.own,∀k off,Loc.c k off∈c.2->∃o,getKey k st.H=some o
 own:∃vs,zA P bs R μ st a w vs
 tP:a5c G bs R w
 pE:∀b o,R b o->b<w.heap.size
 base:∀b,w.heap.size<=b->bs b
 pass:∀k,100000<=k->μ k=bs.home k
structure zB (base:cN) (w w':World):Prop where
 os:w'.os=w.os
 tape:w'.tape=w.tape
 output:w'.output=w.output
 size:w.heap.size<=w'.heap.size
 block:∀k, ¬base k->w'.heap[k]? =w.heap[k]?
theorem zB.refl(base:cN)(w:World):zB base w w:=⟨rfl,rfl,rfl,f3d _,λ_ _=>rfl⟩
theorem zB.trans{base:cN}{a b c:World}(h:zB base a b)(k:zB base b c):zB base a c:=
 ⟨k.os.trans h.os,k.tape.trans h.tape,k.output.trans h.output,Nat.le_trans h.size k.size,λi hi=>(k.block i hi).trans (h.block i hi)⟩
theorem zB.mono{base mC:cN}{w w':World}(h:zB base w w')(hb:∀k,base k->mC k):zB mC w w':=⟨h.os,h.tape,h.output,h.size,λk hk=>h.block k λhx=>hk (hb k hx)⟩
theorem zB.drew{base:cN}{a w:World}(h:zB base a w):zB base a w.drew:=⟨h.os,h.tape,h.output,h.size,h.block⟩
theorem zB.alloc{base:cN}{a w:World}(h:zB base a w)(hB:∀b,w.heap.size<=b->base b)(o:Obj):zB base a (w.alloc o):=
 h.trans ⟨rfl,rfl,rfl,by simp,λk hk=>by
  show(w.heap.push o)[k]? =_
  rw[Array.getElem?_push,if_neg λe=>hk (hB k (by omega))]⟩
abbrev xC(n:Nat):cN:=⟨λk=>n<=k,λ_=>0⟩
theorem zB.below{n:Nat}{w w':World}(h:zB (xC n) w w'):Below n w w':=⟨h.os,h.tape,h.output,h.size,λk hk=>h.block k (by simpa[xC]using hk)⟩
theorem zB.c7l{n:Nat}{w w':World}(h:Below n w w'):zB (xC n) w w':=⟨h.os,h.tape,h.output,h.size,λk hk=>h.block k (by simpa[xC]using hk)⟩
structure Step (base:cN) (R:Nat->Nat->Prop) (w:World) (R':Nat->Nat->Prop) (w':World):Prop where
 below:zB base w w'
 mono:∀b o,R b o->R' b o
 new:∀b o,R' b o-> ¬R b o->base b
 cells:∀b o,R b o->w'.cell? ⟨b,o,none⟩=w.cell? ⟨b,o,none⟩
theorem Step.refl(base:cN)(R:Nat->Nat->Prop)(w:World):Step base R w R w:=⟨zB.refl _ _,λ_ _ h=>h,λ_ _ h h'=>absurd h h',λ_ _ _=>rfl⟩
theorem Step.trans{base:cN}{R R' R'':Nat->Nat->Prop}{w w' w'':World}(h:Step base R w R' w')(h':Step base R' w' R'' w''):Step base R w R'' w'':=
 ⟨h.below.trans h'.below,λb o hr=>h'.mono b o (h.mono b o hr),λb o hr hn=>by
  by_cases hm:R' b o
  .exact h.new b o hm hn
  .exact h'.new b o hr hm,λb o hr=>(h'.cells b o (h.mono b o hr)).trans (h.cells b o hr)⟩
def CS(P:Program)(G:GT)(f:FuncId)(ds:List D)(r:DV)(own:Option TypeId):Prop:=
 ∀(w:World) (R:Nat->Nat->Prop) (args:Array Value),a5c G (xC w.heap.size) R w->(∀b o,R b o->b<w.heap.size)->args.size=ds.length->
  (∀(i:Nat) (d:D),ds[i]? =some d->V R w (args.getD i undef) d)->
  Calls P f args w λe w'=>∃v R',e=.returned v/\(∀μ,TV R' μ w' v r)/\Step (xC w.heap.size) R w R' w'/\(∀b o,R' b o->b<w'.heap.size)/\
   (∀e,own=some e->oK P (xC w.heap.size) R' w' e v)
def SW(P:Program)(G:GT)(c:Code)(st:St)(Q:Exit->St->Prop):Prop:=
 ∀base R μ a w,Rel P G base R μ st a w->c.wp P (λe a' w'=>∃st' R' μ',Q e st'/\Rel P G base R' μ' st' a' w'/\Step base R w R' w') a w
theorem V.step{R R':Nat->Nat->Prop}{w w':World}(hm:∀b o,R b o->R' b o)(hc:∀b o,R b o->w'.cell? ⟨b,o,none⟩=w.cell? ⟨b,o,none⟩){v:Value}{d:D}(h:V R w v d):V R' w' v d:=by
 induction h with
 |int k n=>exact .int k n
 |bool b=>exact .bool b
 |str s=>exact .str s
 |aJ ao=>exact .aJ ao
 |emp ao cap=>exact .emp ao cap
 |sl b o n cap size es f h1 h2 h3 h4 h5 h6 _ ih=>exact .sl b o n cap size es f h1 h2 h3 h4 (λi j hi hj=>⟨hm _ _ (h5 i j hi hj).1,(hc _ _ (h5 i j hi hj).1).trans (h5 i j hi hj).2⟩) h6 ih
 |agg cs ds h1 h2 _ ih=>exact .agg cs ds h1 h2 ih
theorem V.bK{base:cN}{R R':Nat->Nat->Prop}{w w':World}(hs:Step base R w R' w'){v:Value}{d:D}(h:V R w v d):V R' w' v d:=h.step hs.mono hs.cells
theorem Run.bK{base:cN}{R R':Nat->Nat->Prop}{w w':World}(hs:Step base R w R' w'){b o:Nat}{cs:List D}(h:Run R w b o cs):Run R' w' b o cs:=by intro j d hj;obtain⟨h1,h2,v,h3,h4⟩:=h j d hj;exact⟨h1,hs.mono _ _ h2,v,(hs.cells _ _ h2).trans h3,h4.bK hs⟩
theorem TV.bK{base:cN}{R R':Nat->Nat->Prop}{μ:Nat->Nat}{w w':World}(hs:Step base R w R' w'){v:Value}{d:DV}(h:TV R μ w v d):TV R' μ w' v d:=by
 induction h with
 |d v x h=>exact .d v x (h.bK hs)
 |undef v=>exact .undef v
 |ptr k off=>exact .ptr k off
 |ep b o cs h=>exact .ep b o cs (h.bK hs)
 |mp k=>exact .mp k
 |it k=>exact .it k
 |cJ vs ds h1 h2=>exact .cJ vs ds h1 λi d hi=>(h2 i d hi).bK hs
 |fn f=>exact .fn f
 |pC b=>exact .pC b
 |wL T=>exact .wL T
 |clo f vs cs h1 _ ih=>exact .clo f vs cs h1 ih
 |ag vs cs h1 h2 h3 _ ih=>exact .ag vs cs h1 h2 h3 ih
theorem qL{key:Nat}:∀ {cs:List DV},kP key cs=false->∀(i:Nat) (c:DV),cs[i]? =some c->mentions key c=false
 |[],_,i,c,h=>by simp at h
 |d::r,hm,i,c,h=>by
  simp only[kP,Bool.or_eq_false_iff]at hm;cases i with
  |zero=>simp at h;subst h;exact hm.1
  |succ i=>exact qL hm.2 i c (by simpa using h)
theorem TV.d5P{R:Nat->Nat->Prop}{μ μ':Nat->Nat}{w:World}{key:Nat}(hμ:∀k,k≠key->μ' k=μ k){v:Value}{d:DV}(h:TV R μ w v d)(hm:mentions key d=false):TV R μ' w v d:=by
 induction h with
 |d v x h=>exact .d v x h
 |undef v=>exact .undef v
 |ptr k off=>
  have:k≠key:=by simpa[mentions]using hm
  rw[<-hμ k this];exact .ptr k off
 |ep b o cs h=>exact .ep b o cs h
 |mp k=>
  have:k≠key:=by simpa[mentions]using hm
  rw[<-hμ k this];exact .mp k
 |it k=>
  have:k≠key:=by simpa[mentions]using hm
  rw[<-hμ k this];exact .it k
 |cJ vs ds h1 h2=>exact .cJ vs ds h1 h2
 |fn f=>exact .fn f
 |pC b=>exact .pC b
 |wL T=>exact .wL T
 |clo f vs cs h1 h2 ih=>simp only[mentions]at hm;exact .clo f vs cs h1 λi c hi=>ih i c hi (qL hm i c hi)
 |ag vs cs h1 h2 h3 h4 ih=>simp only[mentions]at hm;exact .ag vs cs h1 h2 h3 λi c hi=>ih i c hi (qL hm i c hi)
theorem a5c.bK{G:GT}{base:cN}{R R':Nat->Nat->Prop}{w w':World}(hs:Step base R w R' w')(h:a5c G base R w):a5c G base R' w':=λg cs hg=>by obtain⟨h1,h2,arr,T,fr,h3,h4⟩:=h g cs hg;exact⟨h1.bK hs,h2,arr,T,fr,by rw[hs.below.block g h2];exact h3,h4⟩
theorem a5c.up{G:GT}{base mC:cN}{R:Nat->Nat->Prop}{w:World}(h:a5c G base R w)(hb:∀k,mC k->base k):a5c G mC R w:=λg cs hg=>by obtain⟨h1,h2,h3⟩:=h g cs hg;exact⟨h1,λhx=>h2 (hb g hx),h3⟩
theorem V.a6V{R:Nat->Nat->Prop}{w:World}{v:Value}{d:D}(h:V R w v d)(h1:d.one=true):v.oneCell'=true:=by cases h<;>first|rfl|(simp[D.one]at h1)
theorem V.c4P{R:Nat->Nat->Prop}{w:World}{v:Value}{d:D}(h:V R w v d)(h1:d.one=true):v.cells=#[v]/\d.cells=[d]:=by cases h<;>first|exact⟨rfl,rfl⟩|(simp[D.one]at h1)
theorem V.cells{R:Nat->Nat->Prop}{w:World}{v:Value}{d:D}(h:V R w v d):v.cells.size=d.cells.length/\∀(i:Nat) (c:D),d.cells[i]? =some c->c.one=true/\V R w (v.cells.getD i undef) c:=by
 cases h with
 |agg cs ds h1 h2 h3=>exact⟨h1,λi c hi=>⟨h2 i c hi,h3 i c hi⟩⟩
 |int k n=>exact⟨rfl,λi c hi=>by cases i<;>simp[D.cells]at hi;subst hi;exact⟨rfl,.int k n⟩⟩
 |bool b=>exact⟨rfl,λi c hi=>by cases i<;>simp[D.cells]at hi;subst hi;exact⟨rfl,.bool b⟩⟩
 |str s=>exact⟨rfl,λi c hi=>by cases i<;>simp[D.cells]at hi;subst hi;exact⟨rfl,.str s⟩⟩
 |aJ ao=>exact⟨rfl,λi c hi=>by cases i<;>simp[D.cells]at hi;subst hi;exact⟨rfl,.aJ ao⟩⟩
 |emp ao cap=>exact⟨rfl,λi c hi=>by cases i<;>simp[D.cells]at hi;subst hi;exact⟨rfl,.emp ao cap⟩⟩
 |sl b o n cap size es f h1 h2 h3 h4 h5 h6 h7=>exact⟨rfl,λi c hi=>by cases i<;>simp[D.cells]at hi;subst hi;exact⟨rfl,.sl b o n cap size es f h1 h2 h3 h4 h5 h6 h7⟩⟩
end Go.VM
namespace Go.VM
open Go Go.RowKit
theorem a2F(k:Nat)(o:aW):∀H:List (Nat×aW),(getKey k H).isSome=true->getKey k (yV k o H)=some o
 |[],h=>by simp[getKey]at h
 |(k',o')::r,h=>by
  unfold yV;split
  .simp[getKey]
  .rename_i hk;simp only[getKey,hk,if_false]at h|-;exact a2F k o r h
theorem a5m{k k':Nat}(o:aW)(h:k≠k'):∀H:List (Nat×aW),getKey k' (yV k o H)=getKey k' H
 |[]=>rfl
 |(k1,o1)::r=>by
  unfold yV;split
  .rename_i h1;subst h1;simp[getKey,h]
  .simp[getKey,a5m o h r]
theorem a2G(k:Nat)(o:aW):∀H:List (Nat×aW),getKey k H=none->getKey k (kB k o H)=some o
 |[],_=>by simp[kB,getKey]
 |(k',o')::r,h=>by
  unfold kB;split
  .simp[getKey]
  .simp only[getKey]at h|-;split at h
   .cases h
   .rename_i hk;rw[if_neg hk];exact a2G k o r h
theorem wC{k k':Nat}(o:aW)(h:k≠k'):∀H:List (Nat×aW),getKey k' (kB k o H)=getKey k' H
 |[]=>by simp[kB,getKey,h]
 |(k1,o1)::r=>by
  unfold kB;split
  .simp[getKey,h]
  .simp[getKey,wC o h r]
theorem a5U(k:Nat)(o:aW)(H:List (Nat×aW)):getKey k (bU k o H)=some o:=by
 unfold bU;split
 .rename_i h;exact a2F k o H h
 .rename_i h;exact a2G k o H (by simpa using h)
theorem jG{k k':Nat}(o:aW)(h:k≠k')(H:List (Nat×aW)):getKey k' (bU k o H)=getKey k' H:=by
 unfold bU;split
 .exact a5m o h H
 .exact wC o h H
theorem a9q{a b:Nat}(h:a≠b)(o o':aW):∀H:List (Nat×aW),kB a o (kB b o' H)=kB b o' (kB a o H)
 |[]=>by
  rcases Nat.lt_or_gt_of_ne h with h'|h'
  .simp[kB,h',Nat.not_lt.2 (Nat.le_of_lt h')]
  .simp[kB,h',Nat.not_lt.2 (Nat.le_of_lt h')]
 |(k,x)::r=>by
  by_cases h1:a<k<;>by_cases h2:b<k
  .rcases Nat.lt_or_gt_of_ne h with h'|h'
   .simp[kB,h1,h2,h',Nat.not_lt.2 (Nat.le_of_lt h')]
   .simp[kB,h1,h2,h',Nat.not_lt.2 (Nat.le_of_lt h')]
  .have: ¬b<a:=by omega
   simp[kB,h1,h2,this]
  .have: ¬a<b:=by omega
   simp[kB,h1,h2,this]
  .simp[kB,h1,h2,a9q h o o' r]
theorem b8k{a b:Nat}(h:a≠b)(o o':aW){H:List (Nat×aW)}(ha:getKey a H=none)(hb:getKey b H=none):bU a o (bU b o' H)=bU b o' (bU a o H):=by
 have e1:bU b o' H=kB b o' H:=by unfold bU;rw[hb];rfl
 have e2:bU a o H=kB a o H:=by unfold bU;rw[ha];rfl
 rw[e1,e2];unfold bU;rw[wC o' (Ne.symm h),wC o h,ha,hb];exact a9q h o o' H
theorem eQ{k k':Nat}(o:aW)(H:List (Nat×aW)):getKey k' (bU k o H)=if k=k' then some o else getKey k' H:=by
 split
 .rename_i h;subst h;exact a5U _ _ _
 .rename_i h;exact jG o h H
section
variable {P:Program} {G:GT} {base:cN} {R R':Nat->Nat->Prop} {μ:Nat->Nat} {st:St} {a:Act} {w w':World}
theorem gK.lt{b:Nat}{o:aW}(h:gK R μ w b o):b<w.heap.size:=by
 cases o with
 |cells cs=>obtain⟨vs,T,h,_⟩:=h;exact(f2W.1 h).1
 |map es=>obtain⟨vs,T,h,_⟩:=h;exact(f2W.1 h).1
 |iter s pos=>exact(f2W.1 (show w.heap[b]? =_ from h)).1
 |bld T u es=>obtain⟨v0,v1,T',h,_⟩:=h;exact(f2W.1 h).1
theorem gK.bK(hs:Step base R w R' w'){b:Nat}(hb:w'.heap[b]? =w.heap[b]?){o:aW}(h:gK R μ w b o):gK R' μ w' b o:=by
 cases o with
 |cells cs=>obtain⟨vs,T,h1,h2,h3,h4⟩:=h;exact⟨vs,T,hb.trans h1,h2,λi d hi=>⟨(h3 i d hi).1,(h3 i d hi).2.bK hs⟩,h4⟩
 |map es=>obtain⟨vs,T,h1,h2,h3⟩:=h;exact⟨vs,T,hb.trans h1,h2,λi k v hi=>⟨(h3 i k v hi).1.bK hs,(h3 i k v hi).2.bK hs⟩⟩
 |iter s pos=>exact hb.trans h
 |bld T u es=>obtain⟨v0,v1,T',h1,h2,h3,h4,h5⟩:=h;exact⟨v0,v1,T',hb.trans h1,h2,h3,h4.bK hs,h5⟩
theorem a2H{e:TypeId}{v:Value}(h:oK P base R w e v){g:Nat}(hg:bF v=some g):
  ∃n cap cur,v=.slice (some ⟨g,0,none⟩) n cap/\base g/\w.heap[g]? =some (.cells cur e (0,0))/\n<=cap/\cap<=maxLen/\cur.size=cap*P.cellsOf e/\∀off,n*P.cellsOf e<=off-> ¬R g off:=by
 rcases h with⟨ao,rfl⟩|⟨g',n,cap,cur,rfl,h⟩
 .cases ao<;>simp[bF]at hg
 .by_cases hc:cap=0
  .simp[bF,hc]at hg
  .simp[bF,hc]at hg;subst hg;exact⟨n,cap,cur,rfl,h⟩
theorem oK.a0l{e:TypeId}{v:Value}(h:oK P base R w e v){g:Nat}(hg:bF v=some g):base g:=by obtain⟨n,cap,cur,_,h,_⟩:=a2H h hg;exact h
theorem oK.lt{e:TypeId}{v:Value}(h:oK P base R w e v){g:Nat}(hg:bF v=some g):g<w.heap.size:=by obtain⟨n,cap,cur,_,_,h,_⟩:=a2H h hg;exact(f2W.1 h).1
theorem oK.b6e{e:TypeId}{v:Value}(h:oK P base R w e v)(hb:∀g,base g->g<w.heap.size->w'.heap[g]? =w.heap[g]?)(hr:∀g off,g<w.heap.size->R' g off->R g off):oK P base R' w' e v:=by
 rcases h with h|⟨g,n,cap,cur,h0,h1,h2,h3,h4,h5,h6⟩
 .exact .inl h
 .have hl:=(f2W.1 h2).1;exact .inr ⟨g,n,cap,cur,h0,h1,(hb g h1 hl).trans h2,h3,h4,h5,λoff ho eK=>h6 off ho (hr g off hl eK)⟩
theorem oK.c3r{e:TypeId}{v:Value}(h:oK P base R w e v)(hb:∀g,bF v=some g->w'.heap[g]? =w.heap[g]?)(hr:∀g off,bF v=some g->R' g off->R g off):oK P base R' w' e v:=by
 rcases h with h|⟨g,n,cap,cur,rfl,h1,h2,h3,h4,h5,h6⟩
 .exact .inl h
 .by_cases hc:cap=0
  .subst hc;have:n=0:=by omega
   subst this;exact .inl ⟨_,rfl⟩
  .have hs:bF (.slice (some ⟨g,0,none⟩) n cap)=some g:=by simp[bF,hc]
   exact .inr ⟨g,n,cap,cur,rfl,h1,(hb g hs).trans h2,h3,h4,h5,λoff ho eK=>h6 off ho (hr g off hs eK)⟩
theorem a5n{l:Loc}{dst:Option Tmp}{v:Value}(h:∀d,dst=some d->l≠ .t d):bZ (a.put dst v) w μ l=bZ a w μ l:=by
 cases dst with
 |none=>rfl
 |some d=>
  cases l with
  |t i=>have:d≠i:=λe=>h d rfl (by rw[e]);simp[bZ,Act.put,Array.getElem?_setIfInBounds_ne this]
  |c k off=>rfl
theorem oZ{l:Loc}{own:List (TypeId×List Loc)}{i:Nat}{c:TypeId×List Loc}(h:(cE l own)[i]? =some c):∃c',own[i]? =some c'/\c.1=c'.1/\∀x,x∈c.2↔x∈c'.2/\x≠l:=by simp only[cE,f2X,f2M]at h;obtain⟨c',h1,rfl⟩:=h;exact⟨c',h1,rfl,λx=>by simp⟩
theorem wP{key:Nat}{own:List (TypeId×List Loc)}{i:Nat}{c:TypeId×List Loc}(h:(dropKey key own)[i]? =some c):∃c',own[i]? =some c'/\c.1=c'.1/\∀x,x∈c.2↔x∈c'.2/\x.wN key=false:=by simp only[dropKey,f2X,f2M]at h;obtain⟨c',h1,rfl⟩:=h;exact⟨c',h1,rfl,λx=>by simp⟩
theorem tV{src dst:Loc}{own:List (TypeId×List Loc)}{i:Nat}{c:TypeId×List Loc}(h:(addAlias src dst own)[i]? =some c):∃c',own[i]? =some c'/\c.1=c'.1/\∀x,x∈c.2->x∈c'.2\/(x=dst/\src∈c'.2):=by
 simp only[addAlias,f2X,f2M]at h;obtain⟨c',h1,h2⟩:=h;refine⟨c',h1,?_⟩;split at h2
 .rename_i hc;subst h2;refine⟨rfl,λx hx=>?_⟩;simp at hx;rcases hx with rfl|hx
  .exact .inr ⟨rfl,by simpa using hc⟩
  .exact .inl hx
 .subst h2;exact⟨rfl,λx hx=>.inl hx⟩
def a3n(P:Program)(base:cN)(R:Nat->Nat->Prop)(μ:Nat->Nat)(st:St)(a:Act)(w:World)(v:Value):OA->Prop
 | .no=>True
 | .al l=>bZ a w μ l=some v
 | .fresh e=>oK P base R w e v/\(∀k o,getKey k st.H=some o->bF v≠some (μ k))/\∃vs,zA P base R μ st a w vs/\∀v'∈vs,a2E v v'/\a2E v' v
theorem zA.act{a':Act}{w':World}{st':St}{dst:Loc}{v:Value}{act:OA}(hex:∃vs,zA P base R μ st a w vs)(kF:st'.own=dO dst act st.own)(a1t:∀k o,getKey k st'.H=some o->∃o',getKey k st.H=some o')(dX:∀c∈st.own,∀l∈c.2,l≠dst->bZ a' w' μ l=bZ a w μ l)(hd:∀u,bZ a' w' μ dst=some u->u=v)(hsl:∀e u,oK P base R w e u->(∀k o,getKey k st.H=some o->bF u≠some (μ k))->oK P base R' w' e u)(xD:a3n P base R μ st a w v act):∃vs',zA P base R' μ st' a' w' vs':=by
 have b6e:∀(vs:List Value),zA P base R μ st a w vs->∀(i:Nat) (c:TypeId×List Loc) (u:Value),(cE dst st.own)[i]? =some c->vs[i]? =some u->a1V P base R' μ st' a' w' c u:=λvs h i c u hc hu=>by
  obtain⟨c',xA,he,hm⟩:=oZ hc;have ho:=h.one i c' u xA hu;refine⟨λl hl u' hu'=>?_,?_,λk o hk=>?_⟩
  .have:=(hm l).1 hl;exact ho.dF l this.1 u' ((dX c' (f2S xA) l this.1 this.2).symm.trans hu')
  .rw[he];exact hsl c'.1 u ho.own ho.keys
  .obtain⟨o',sV⟩:=a1t k o hk;exact ho.keys k o' sV
 cases act with
 |no=>obtain⟨vs,h⟩:=hex;exact⟨vs,by rw[kF];simpa[dO,cE]using h.len,λi c u hc hu=>b6e vs h i c u (by rw[kF]at hc;exact hc) hu,h.apart⟩
 |al l=>
  obtain⟨vs,h⟩:=hex;have h1:=h.one;by_cases hld:l=dst
  .subst hld;refine⟨vs,by rw[kF];simpa[dO]using h.len,λi c u hc hu=>?_,h.apart⟩;rw[kF]at hc;simp only[dO,if_true]at hc;have ho:=h1 i c u hc hu;refine⟨λl' hl' u' hu'=>?_,hsl c.1 u ho.own ho.keys,λk o hk=>by obtain⟨o',sV⟩:=a1t k o hk;exact ho.keys k o' sV⟩;by_cases e2m:l'=l
   .subst e2m;exact(hd u' hu').trans (ho.dF l' hl' v xD)
   .exact ho.dF l' hl' u' ((dX c (f2S hc) l' hl' e2m).symm.trans hu')
  .refine⟨vs,by rw[kF];simpa[dO,hld,addAlias,cE]using h.len,λi c u hc hu=>?_,h.apart⟩;rw[kF]at hc;simp only[dO,if_neg hld]at hc;obtain⟨c',xA,he,hm⟩:=tV hc;have ho:=b6e vs h i c' u xA hu;refine⟨λl' hl' u' hu'=>?_,by rw[he];exact ho.own,ho.keys⟩;rcases hm l' hl' with hx|⟨rfl,hx⟩
   .exact ho.dF l' hx u' hu'
   .obtain⟨c0,xZ,_,hm0⟩:=oZ xA;exact(hd u' hu').trans ((h1 i c0 u xZ hu).dF l ((hm0 l).1 hx).1 v xD)
 |fresh e=>
  obtain⟨ha1,ha2,vs,h,e5O⟩:=xD;refine⟨v::vs,by rw[kF];simpa[dO,cE]using h.len,λi c u hc hu=>?_,List.pairwise_cons.2 ⟨λv' yA=>(e5O v' yA).1,h.apart⟩⟩;rw[kF]at hc;cases i with
  |zero=>simp[dO]at hc hu;subst hc hu;exact⟨λl hl u hu=>by simp at hl;subst hl;exact hd u hu,hsl e v ha1 ha2,λk o hk=>by obtain⟨o',sV⟩:=a1t k o hk;exact ha2 k o' sV⟩
  |succ i=>simp[dO]at hc hu;exact b6e vs h i c u hc hu
theorem Rel.put{dst:Option Tmp}{v:Value}{dv:DV}{act:OA}(h:Rel P G base R μ st a w)(hv:TV R μ w v dv)(xD:a3n P base R μ st a w v act):
  Rel P G base R μ (finish st dst dv act) (a.put dst v) w:=by
 cases dst with
 |none=>exact h
 |some d=>
  refine⟨h.defers,by simp[finish,Act.put,h.size],λi u x hu hx=>?_,h.gM,h.inj,λc hc k off hl=>?_,?_,h.tP,h.pE,h.base,h.pass⟩
  .simp only[finish,Act.put]at hu hx;by_cases hdi:d=i
   .subst hdi;have h1:d<st.tmps.length:=by
     by_cases aI:d<st.tmps.length
     .exact aI
     .have sI:(st.tmps.set d dv)[d]? =none:=List.getElem?_eq_none (by rw[List.length_set];exact Nat.le_of_not_lt aI);rw[sI]at hx;cases hx
    have h2:d<a.tmps.size:=by rw[h.size];exact h1
    simp[h1]at hx;simp[h2]at hu;subst hu hx;exact hv
   .rw[Array.getElem?_setIfInBounds_ne hdi]at hu;rw[List.getElem?_set_ne hdi]at hx;exact h.tmps i u x hu hx
  .simp only[finish]at hc;obtain⟨i,hi⟩:=f3e hc;cases act with
   |no=>obtain⟨c',xA,_,hm⟩:=oZ hi;exact h.dF c' (f2S xA) k off ((hm _).1 hl).1
   |al l=>
    by_cases hld:l=.t d
    .simp only[dO,if_pos hld]at hi;exact h.dF c (f2S hi) k off hl
    .simp only[dO,if_neg hld]at hi;obtain⟨c',xA,_,hm⟩:=tV hi;rcases hm _ hl with hx|⟨hx,_⟩
     .obtain⟨c0,xZ,_,hm0⟩:=oZ xA;exact h.dF c0 (f2S xZ) k off ((hm0 _).1 hx).1
     .cases hx
   |fresh e=>
    cases i with
    |zero=>simp[dO]at hi;subst hi;simp at hl
    |succ i=>simp[dO]at hi;obtain⟨c',xA,_,hm⟩:=oZ hi;exact h.dF c' (f2S xA) k off ((hm _).1 hl).1
  .refine zA.act (st':=finish st (some d) dv act) h.own rfl (λk o hk=>⟨o,hk⟩) (λc _ l _ hl=>a5n λd' hd'=>by cases hd';exact hl) (λu hu=>?_) (λe u hu _=>hu) xD;simp only[bZ,Act.put]at hu;by_cases aI:d<a.tmps.size
   .simp[aI]at hu;exact hu.symm
   .simp[aI]at hu
theorem zA.step(h:Rel P G base R μ st a w){vs:List Value}(pF:zA P base R μ st a w vs)(hb:∀k,k<w.heap.size->w'.heap[k]? =w.heap[k]?)(hold:∀b o,b<w.heap.size->R' b o->R b o):zA P base R' μ st a w' vs:=by
 obtain⟨hl,h1,xE⟩:=pF;refine⟨hl,λi c v hc hv=>?_,xE⟩;have ho:=h1 i c v hc hv;refine⟨λl hl u hu=>?_,ho.own.b6e (λg _ hg=>hb g hg) (λg off hg=>hold g off hg),ho.keys⟩;refine ho.dF l hl u ?_;cases l with
 |t i=>exact hu
 |c k off=>obtain⟨o,hk⟩:=h.dF c (f2S hc) k off hl;obtain⟨_,_,h3⟩:=h.gM k o hk;rw[show bZ a w' μ (.c k off)=bZ a w μ (.c k off) from World.cell?_of_block (hb _ h3.lt)]at hu;exact hu
theorem zA.lt{vs:List Value}(pF:zA P base R μ st a w vs){v:Value}(hv:v∈vs){g:Nat}(hg:bF v=some g):g<w.heap.size:=by
 obtain⟨i,hi⟩:=f3e hv;have tT:i<st.own.length:=by rw[<-pF.len];exact(f2O.1 hi).1
 exact(pF.one i st.own[i] v (by simp[tT]) hi).own.lt hg
theorem Rel.step(h:Rel P G base R μ st a w)(hs:Step base R w R' w')(hb:∀k,k<w.heap.size->w'.heap[k]? =w.heap[k]?)(hn:∀b o,R' b o-> ¬R b o->w.heap.size<=b)(hr:∀b o,R' b o->b<w'.heap.size):
  Rel P G base R' μ st a w':=by
 have hold:∀b o,b<w.heap.size->R' b o->R b o:=λb o hl eK=>by
  by_cases hx:R b o
  .exact hx
  .have:=hn b o eK hx;omega
 refine⟨h.defers,h.size,λi v d hv hd=>(h.tmps i v d hv hd).bK hs,λk o hk=>?_,h.inj,h.dF,?_,h.tP.bK hs,hr,λb hb=>h.base b (Nat.le_trans hs.below.size hb),h.pass⟩
 .obtain⟨h1,h2,h3⟩:=h.gM k o hk;exact⟨h1,λoff eK=>h2 off (hold _ _ h3.lt eK),h3.bK hs (hb _ h3.lt)⟩
 .obtain⟨vs,pF⟩:=h.own;exact⟨vs,pF.step h hb hold⟩
theorem TV.kill{v:Value}{d:DV}(key b:Nat)(h:TV R μ w v d):TV R (λk=>if k=key then b else μ k) w v (jV key d):=by
 unfold jV;by_cases hm:mentions key d=true
 .rw[if_pos hm];exact .undef _
 .rw[if_neg hm];exact h.d5P (key:=key) (λk hk=>by simp[hk]) (by simpa using hm)
theorem b6f{key:Nat}{d:DV}(h:d.cell=true):(jV key d).cell=true:=by
 unfold jV;split
 .rfl
 .exact h
theorem gK.kill{b:Nat}{o:aW}(key b':Nat)(h:gK R μ w b o):gK R (λk=>if k=key then b' else μ k) w b (a0j key o):=by
 cases o with
 |cells cs=>
  obtain⟨vs,T,h1,h2,h3,h4⟩:=h;refine⟨vs,T,h1,by simp[h2],λi d hi=>?_,λT' hm=>?_⟩
  .rw[f2X]at hi;obtain⟨d0,hd0,rfl⟩:=f2M.1 hi;exact⟨b6f (h3 i d0 hd0).1,(h3 i d0 hd0).2.kill key b'⟩
  .obtain⟨d0,hd0,he⟩:=List.mem_map.1 hm;unfold jV at he;split at he
   .cases he
   .subst he;exact h4 T' hd0
 |map es=>exact h
 |iter s p=>exact h
 |bld T u es=>exact h
theorem rC(key k:Nat):∀H:List (Nat×aW),getKey k (H.map λp=>(p.1,a0j key p.2))=(getKey k H).map (a0j key)
 |[]=>rfl
 |(k',o)::r=>by
  simp only[List.map_cons,getKey];split
  .rfl
  .exact rC key k r
theorem Step.alloc(R:Nat->Nat->Prop)(w:World)(o:Obj)(hb:∀b,w.heap.size<=b->base b)(hr:∀b o,R b o->b<w.heap.size):Step base R w R (w.alloc o):=
 ⟨(zB.refl _ _).alloc hb o,λ_ _ h=>h,λ_ _ h h'=>absurd h h',λb off hR=>World.cell?_alloc_lt w o ⟨b,off,none⟩ (hr b off hR)⟩
theorem Rel.newObj(h:Rel P G base R μ st a w)(key:Nat)(e9x:key<100000)(o:aW)(ob:Obj)(hob:gK R (λk=>if k=key then w.heap.size else μ k) (w.alloc ob) w.heap.size o):
  Rel P G base R (λk=>if k=key then w.heap.size else μ k) (eG st key o) a (w.alloc ob)/\Step base R w R (w.alloc ob):=by
 have hs:Step base R w R (w.alloc ob):=Step.alloc R w ob h.base h.pE;have hold:∀k,k<w.heap.size->(w.alloc ob).heap[k]? =w.heap[k]? :=λk hk=>Below.heap_alloc w ob k hk;refine⟨⟨h.defers,by simp[eG,h.size],λi v d hv hd=>?_,λk o' hk=>?_,λk k' o1 o2 h1 h2 he=>?_,λc hc k off hl=>?_,?_,h.tP.bK hs,λb off hr=>by have:=h.pE b off hr;simp;omega,λb hb=>h.base b (by simp at hb;omega),λk hk=>by rw[if_neg (by omega)];exact h.pass k hk⟩,hs⟩
 .simp only[eG,f2X,f2M]at hd;obtain⟨d0,hd0,rfl⟩:=hd;exact((h.tmps i v d0 hv hd0).bK hs).kill key w.heap.size
 .simp only[eG,eQ]at hk;by_cases sW:key=k
  .subst sW;simp at hk;subst hk;simp only[if_true];exact⟨h.base _ (f3d _),λoff hr=>by have:=h.pE _ _ hr;omega,hob⟩
  .rw[if_neg sW,rC]at hk;obtain⟨o0,ho0,rfl⟩:=f2M.1 hk;obtain⟨h1,h2,h3⟩:=h.gM k o0 ho0;simp only[if_neg (Ne.symm sW)];exact⟨h1,h2,(h3.bK hs (hold _ h3.lt)).kill key w.heap.size⟩
 .simp only[eG,eQ]at h1 h2;by_cases hk1:key=k
  .by_cases xF:key=k'
   .exact hk1.symm.trans xF
   .subst hk1;rw[if_neg xF,rC]at h2;obtain⟨o0,ho0,_⟩:=f2M.1 h2;obtain⟨_,_,h3⟩:=h.gM k' o0 ho0;have:=h3.lt;simp[Ne.symm xF]at he;omega
  .rw[if_neg hk1,rC]at h1;obtain⟨o0,ho0,_⟩:=f2M.1 h1;obtain⟨_,_,h3⟩:=h.gM k o0 ho0;have aI:=h3.lt;by_cases xF:key=k'
   .subst xF;simp[Ne.symm hk1]at he;omega
   .rw[if_neg xF,rC]at h2;obtain⟨o3,ho3,_⟩:=f2M.1 h2;simp only[if_neg (Ne.symm hk1),if_neg (Ne.symm xF)]at he;exact h.inj k k' o0 o3 ho0 ho3 he
 .obtain⟨i,hi⟩:=f3e hc;simp only[eG]at hi;obtain⟨c',xA,_,hm⟩:=wP hi;have:=(hm _).1 hl;obtain⟨o',sV⟩:=h.dF c' (f2S xA) k off this.1;simp only[eG,eQ];split
  .exact⟨_,rfl⟩
  .rw[rC,sV];exact⟨_,rfl⟩
 .obtain⟨vs,hl,h1,xE⟩:=h.own;refine⟨vs,by simpa[eG,dropKey]using hl,λi c v hc hv=>?_,xE⟩;simp only[eG]at hc;obtain⟨c',xA,he,hm⟩:=wP hc;have ho:=h1 i c' v xA hv;refine⟨λl hl u hu=>?_,by rw[he];exact ho.own.b6e (λg _ hg=>hold g hg) (λg off _ hr=>hr),λk o' hk=>?_⟩
  .have hx:=(hm l).1 hl;refine ho.dF l hx.1 u ?_;cases l with
   |t i=>exact hu
   |c k off=>
    have sW:k≠key:=by simpa[Loc.wN]using hx.2
    obtain⟨o',sV⟩:=h.dF c' (f2S xA) k off hx.1;obtain⟨_,_,h3⟩:=h.gM k o' sV;simp only[bZ,if_neg sW]at hu|-;rw[<-hu];exact(World.cell?_of_block (hold _ h3.lt)).symm
  .simp only[eG,eQ]at hk;by_cases sW:key=k
   .subst sW;simp only[if_true];intro hsp;have:=ho.own.lt hsp;omega
   .rw[if_neg sW,rC]at hk;obtain⟨o0,ho0,_⟩:=f2M.1 hk;simp only[if_neg (Ne.symm sW)];exact ho.keys k o0 ho0
end
end Go.VM
namespace Go.VM
open Go Go.RowKit
section
variable {P:Program} {G:GT} {base:cN} {R:Nat->Nat->Prop} {μ:Nat->Nat} {st:St} {a:Act} {w:World}
theorem vG{v:Value}{x:D}(h:wM v=some x):V R w v x/\x.one=true:=by
 unfold wM at h;split at h<;>simp at h<;>subst h
 .exact⟨.int _ _,rfl⟩
 .exact⟨.bool _,rfl⟩
 .rename_i s;have:=V.str (R:=R) (w:=w) s.data.toList;simp only[Array.toArray_toList]at this;exact⟨this,rfl⟩
 .exact⟨.aJ _,rfl⟩
theorem a3p:∀ {l:List Value} {ds:List D},vD l=some ds->l.length=ds.length/\∀(i:Nat) (d:D),ds[i]? =some d->V R w (l.getD i undef) d/\d.one=true
 |[],ds,h=>by simp[vD]at h;subst h;simp
 |v::l,ds,h=>by
  unfold vD at h;split at h<;>simp at h;rename_i x ds' h1 h2;subst h;obtain⟨h3,h4⟩:=a3p (l:=l) h2;refine⟨by simp[h3],λi d hi=>?_⟩;cases i with
  |zero=>simp at hi;subst hi;exact vG h1
  |succ i=>simp at hi;simpa using h4 i d hi
theorem b0Z(v:Value):TV R μ w v (ofConst v):=by
 unfold ofConst;split
 .rename_i cs;split
  .rename_i ds h;obtain⟨h1,h2⟩:=a3p (R:=R) (w:=w) h;exact .d _ _ (.agg cs ds (by simpa using h1) (λi d hi=>(h2 i d hi).2) λi d hi=>by have:=(h2 i d hi).1;simpa[f2P,List.getD]using this)
  .exact .undef _
 .split
  .rename_i x h;exact .d _ _ (vG h).1
  .exact .undef _
theorem Rel.eval(h:Rel P G base R μ st a w)(x:Operand):TV R μ w (a.eval x) (st.eval G x):=by
 cases x with
 |tmp t=>
  simp only[Act.eval,St.eval];by_cases ht:t<a.tmps.size
  .have h1:a.tmps[t]? =some (a.tmps.getD t undef):=by simp[ht]
   have h2:st.tmps[t]? =some (st.tmps.getD t (.cJ [])):=by
    have:t<st.tmps.length:=by rw[<-h.size];exact ht
    simp[this,List.getD]
   exact h.tmps t _ _ h1 h2
  .have h3: ¬t<st.tmps.length:=by rw[<-h.size];exact ht
   have h1:a.tmps.getD t undef=.tuple #[]:=by simp[Array.getD,ht];rfl
   have h2:st.tmps.getD t (.cJ [])=.cJ []:=by simp[List.getD,List.getElem?_eq_none (Nat.le_of_not_lt h3)]
   rw[h1,h2];exact .cJ _ _ rfl (by simp)
 |const v=>exact b0Z v
 |global g=>
  simp only[Act.eval,St.eval];split
  .rename_i cs hg;exact .ep g 0 cs (h.tP g cs hg).1
  .exact .undef _
 |func f=>exact .fn f
theorem TV.a6W{v:Value}{d:D}(h:TV R μ w v (.d d)):V R w v d:=by cases h;assumption
theorem Rel.jI(h:Rel P G base R μ st a w){x:Operand}{d:D}(hx:st.eval G x=.d d):V R w (a.eval x) d:=by have:=h.eval x;rw[hx]at this;exact this.a6W
theorem Rel.qV(h:Rel P G base R μ st a w)(x:Operand):a3n P base R μ st a w (a.eval x) (qV (st.eval G x) (sU x)):=by
 unfold Go.VM.qV;split
 .rename_i es hx;cases x with
  |tmp s=>
   show a.tmps[s]? =some (a.tmps.getD s undef)
   by_cases hs:s<a.tmps.size
   .simp[hs]
   .have h3: ¬s<st.tmps.length:=by rw[<-h.size];exact hs
    simp[St.eval,List.getD,List.getElem?_eq_none (Nat.le_of_not_lt h3)]at hx
  |_=>trivial
 .trivial
def qF(P:Program)(G:GT)(o:Oper)(st:St)(out:Out):Prop:=
 ∀base R μ a w,Rel P G base R μ st a w->∃v w' R' μ',((execOp a.eval o).run P w=.ok (.value v) w'\/((execOp a.eval o).run P w=.ok .skip w'/\v=Go.undef))/\
  Rel P G base R' μ' out.st a w'/\TV R' μ' w' v out.v/\a3n P base R' μ' out.st a w' v out.act/\Step base R w R' w'
theorem bH{o:Oper}{v':DV}{act:OA}(h:∀base R μ a w,Rel P G base R μ st a w->∃v,(execOp a.eval o).run P w=.ok (.value v) w/\TV R μ w v v'/\a3n P base R μ st a w v act):qF P G o st ⟨v',act,st⟩:=by intro base R μ a w hr;obtain⟨v,h1,h2,h3⟩:=h base R μ a w hr;exact⟨v,w,R,μ,.inl h1,hr,h2,h3,.refl _ _ _⟩
theorem info_of_underlying{t:TypeId}{d:TypeDesc}(h:P.underlying t=some d):∃i,P.info? t=some i/\i.size=P.cellsOf t/\i.bytes=P.bytesOf t:=by
 unfold Program.underlying at h;cases hi:P.info? t with
 |none=>simp[hi]at h
 |some i=>exact⟨i,rfl,by simp[Program.cellsOf,hi],by simp[Program.bytesOf,hi]⟩
theorem run_sizeOf{t:TypeId}{d:TypeDesc}(h:P.underlying t=some d)(w:World):(sizeOf t).run P w=.ok (P.cellsOf t) w:=by obtain⟨i,h1,h2,_⟩:=info_of_underlying h;simp[sizeOf,typeInfo,h1,h2]
theorem pZ{t:TypeId}{d:TypeDesc}(h:P.underlying t=some d)(w:World):(isAgg t).run P w=.ok (mS d) w:=by unfold isAgg;simp only[Sem.run_bind,run_underlying h,Result.andThen_ok];cases d<;>rfl
theorem kG(b o j:Nat):(⟨b,o,none⟩:Addr).add j=⟨b,o+j,none⟩:=by unfold Addr.add;split<;>simp_all
def d2p(R:Nat->Nat->Prop)(w:World)(b o:Nat)(cs:List D):Prop:=∀(j:Nat) (d:D),cs[j]? =some d->d.one=true/\∃v,w.cell? ⟨b,o+j,none⟩=some v/\V R w v d
theorem Run.d7Q{b o:Nat}{cs:List D}(h:Run R w b o cs):d2p R w b o cs:=λj d hj=>⟨(h j d hj).1,(h j d hj).2.2⟩
theorem Run.drop{b o:Nat}{cs:List D}(h:Run R w b o cs)(n:Nat):Run R w b (o+n) (cs.drop n):=λj d hj=>by
 rw[f3g]at hj;have:=h _ d hj
 rwa[<-Nat.add_assoc]at this
def a8u(R:Nat->Nat->Prop)(μ:Nat->Nat)(w:World)(b o:Nat)(cs:List DV):Prop:=∀(j:Nat) (d:DV),cs[j]? =some d->d.cell=true/\∃v,w.cell? ⟨b,o+j,none⟩=some v/\TV R μ w v d
theorem a8u.drop{b o:Nat}{cs:List DV}(h:a8u R μ w b o cs)(n:Nat):a8u R μ w b (o+n) (cs.drop n):=λj d hj=>by
 rw[f3g]at hj;have:=h _ d hj
 rwa[<-Nat.add_assoc]at this
theorem a8u.a3q{b:Nat}{cs:List DV}(h:gK R μ w b (.cells cs)):a8u R μ w b 0 cs:=λj d hj=>by
 obtain⟨vs,T,hh,hU,pR,_⟩:=h;obtain⟨h1,h2⟩:=pR j d hj;have aI:j<vs.size:=by rw[hU];exact(f2O.1 hj).1
 refine⟨h1,vs.getD j undef,?_,h2⟩;rw[Nat.zero_add,cell_of_row w _ _ vs T (0,0) hh];simp[aI]
theorem c3t:∀ {l:List DV} {ds:List D},vE l=some ds->l=ds.map .d
 |[],ds,h=>by simp[vE]at h;subst h;rfl
 | .d x::l,ds,h=>by
  simp only[vE]at h;split at h
  .rename_i ds' h';simp at h;subst h;rw[c3t h']
   rfl
  .cases h
 | .undef::_,_,h| .ptr _ _::_,_,h| .ep _::_,_,h| .mp _::_,_,h| .it _::_,_,h| .cJ _::_,_,h| .fn _::_,_,h| .wL _::_,_,h| .pC::_,_,h| .clo _ _::_,_,h| .ag _::_,_,h=>by simp[vE]at h
theorem a8u.d7Q{b o:Nat}{ds:List D}(h:a8u R μ w b o (ds.map .d)):d2p R w b o ds:=λj d hj=>by obtain⟨h1,v,h2,h3⟩:=h j (.d d) (by simp[hj]);exact⟨h1,v,h2,h3.a6W⟩
theorem a2I{t:TypeId}{b o:Nat}{cs:List D}{y:D}(cD:d2p R w b o cs)(ht:takeD P t cs=some y):
  ∃v,(loadVar t ⟨b,o,none⟩).run P w=.ok v w/\V R w v y/\(∀es,y=.sl es->w.cell? ⟨b,o,none⟩=some v):=by
 unfold takeD at ht;split at ht
 .rename_i d hd;split at ht
  .rename_i a5W;split at ht
   .rename_i hle;simp at ht;subst ht;have hc:∀j,j<P.cellsOf t->∃v,w.cell? ⟨b,o+j,none⟩=some v/\∀d,cs[j]? =some d->d.one=true/\V R w v d:=λj hj=>by
     have aI:j<cs.length:=by omega
     obtain⟨h1,v,h3,h4⟩:=cD j cs[j] (by simp[aI]);exact⟨v,h3,λd hd=>by simp[aI]at hd;subst hd;exact⟨h1,h4⟩⟩
    have hf:∀j,j<P.cellsOf t->w.cell? ((⟨b,o,none⟩:Addr).add j)=some ((w.cell? ⟨b,o+j,none⟩).getD undef):=λj hj=>by obtain⟨v,hv,_⟩:=hc j hj;rw[kG,hv];rfl
    refine⟨.agg ((List.range (P.cellsOf t)).map λj=>(w.cell? ⟨b,o+j,none⟩).getD undef).toArray,?_,.agg _ _ (by simp;omega) (λi d hi=>?_) (λi d hi=>?_),by simp⟩
    .unfold loadVar;simp only[Sem.run_bind,pZ hd,Result.andThen_ok,a5W,if_true,run_sizeOf hd,run_loadCells (P:=P) w _ _ _ hf,Sem.run_pure]
    .rw[List.getElem?_take]at hi;split at hi
     .rename_i aI;obtain⟨v,_,hv⟩:=hc i aI;exact(hv d hi).1
     .cases hi
    .rw[List.getElem?_take]at hi;split at hi
     .rename_i aI;obtain⟨v,hv,hvd⟩:=hc i aI;simp[f2P,aI,hv];exact(hvd d hi).2
     .cases hi
   .cases ht
  .rename_i a5W;have h0:cs[0]? =some y:=by rw[<-List.head?_eq_getElem?];exact ht
   obtain⟨_,v,h3,h4⟩:=cD 0 y h0;refine⟨v,?_,h4,λ_ _=>by simpa using h3⟩;unfold loadVar;simp only[Nat.add_zero]at h3;simp only[Sem.run_bind,pZ hd,Result.andThen_ok,a5W,Bool.false_eq_true,if_false,run_load,h3]
 .cases ht
theorem a9r{cs:List DV}{y:DV}(h:takeA cs=some y):(∃ds,vE cs=some ds/\y=.d (.agg ds))\/(cs.all b4H=true/\y=.ag cs):=by
 unfold takeA at h;split at h
 .rename_i ds hd;cases h;exact .inl ⟨ds,hd,rfl⟩
 .split at h
  .rename_i ha;cases h;exact .inr ⟨ha,rfl⟩
  .cases h
theorem TV.b4H{v:Value}{c:DV}(h:TV R μ w v c)(hs:Go.VM.b4H c=true):v.oneCell'=true:=by
 cases h with
 |d v x h=>exact h.a6V hs
 |undef v=>cases hs
 |ptr k off=>rfl
 |ep b o cs h=>rfl
 |mp k=>rfl
 |it k=>cases hs
 |cJ vs ds h1 h2=>cases hs
 |fn f=>rfl
 |pC b=>rfl
 |wL T=>cases hs
 |clo f vs cs h1 h2=>rfl
 |ag vs cs h1 h2 h3 h4=>cases hs
theorem vH{t:TypeId}{b o:Nat}{cs:List DV}{y:DV}(cD:a8u R μ w b o cs)(ht:a9o P t cs=some y):
  ∃v,(loadVar t ⟨b,o,none⟩).run P w=.ok v w/\TV R μ w v y/\(∀es,y=.d (.sl es)->w.cell? ⟨b,o,none⟩=some v):=by
 unfold a9o at ht;split at ht
 .rename_i d hd;split at ht
  .rename_i a5W;split at ht
   .rename_i hle;rcases a9r ht with⟨ds,hds,rfl⟩|⟨cY,rfl⟩
    .have he:=c3t hds;have hl:ds.length=P.cellsOf t:=by have:=congrArg List.length he;simp at this;omega
     have h0:d2p R w b o ds:=a8u.d7Q (μ:=μ) λj x hj=>cD j x (by
      rw[<-he,List.getElem?_take]at hj;split at hj
      .exact hj
      .cases hj)
     obtain⟨v,h1,h2,h3⟩:=a2I (P:=P) (t:=t) h0 (y:=.agg ds) (by unfold takeD;rw[hd];simp only[a5W,if_true];rw[if_pos (by omega), <- hl,List.take_length]);exact⟨v,h1,.d _ _ h2,λes he=>by cases he⟩
    .have hc:∀j,j<P.cellsOf t->∃v,w.cell? ⟨b,o+j,none⟩=some v/\∀d,(cs.take (P.cellsOf t))[j]? =some d->d.cell=true/\TV R μ w v d/\v.oneCell'=true:=λj hj=>by
      have aI:j<cs.length:=by omega
      obtain⟨h1,v,h3,h4⟩:=cD j cs[j] (by simp[aI]);refine⟨v,h3,λd hd=>?_⟩;rw[List.getElem?_take,if_pos hj,f2R aI]at hd;cases hd;refine⟨h1,h4,h4.b4H ?_⟩;exact f2Q.1 cY _ (f2S (i:=j) (by rw[List.getElem?_take,if_pos hj,f2R aI]))
     have hf:∀j,j<P.cellsOf t->w.cell? ((⟨b,o,none⟩:Addr).add j)=some ((w.cell? ⟨b,o+j,none⟩).getD undef):=λj hj=>by obtain⟨v,hv,_⟩:=hc j hj;rw[kG,hv];rfl
     have hlen:(cs.take (P.cellsOf t)).length=P.cellsOf t:=by simp;omega
     have hat:∀(i:Nat) (d:DV),(cs.take (P.cellsOf t))[i]? =some d->d.cell=true/\TV R μ w ((((List.range (P.cellsOf t)).map λj=>(w.cell? ⟨b,o+j,none⟩).getD undef).toArray).getD i Go.undef) d/\((((List.range (P.cellsOf t)).map λj=>(w.cell? ⟨b,o+j,none⟩).getD undef).toArray).getD i Go.undef).oneCell'=true:=λi d hi=>by
      have aI:i<P.cellsOf t:=by rw[<-hlen];exact(f2O.1 hi).1
      obtain⟨v,hv,hvd⟩:=hc i aI;simp[f2P,aI,hv];exact hvd d hi
     refine⟨.agg ((List.range (P.cellsOf t)).map λj=>(w.cell? ⟨b,o+j,none⟩).getD undef).toArray,?_,.ag _ _ (by simp;omega) (λi hi=>(hat i _ (f2R hi)).2.2) (λi d hi=>(hat i d hi).1) (λi d hi=>(hat i d hi).2.1),by simp⟩;unfold loadVar;simp only[Sem.run_bind,pZ hd,Result.andThen_ok,a5W,if_true,run_sizeOf hd,run_loadCells (P:=P) w _ _ _ hf,Sem.run_pure]
   .cases ht
  .rename_i a5W;have h0:cs[0]? =some y:=by rw[<-List.head?_eq_getElem?];exact ht
   obtain⟨_,v,h3,h4⟩:=cD 0 y h0;refine⟨v,?_,h4,λ_ _=>by simpa using h3⟩;unfold loadVar;simp only[Nat.add_zero]at h3;simp only[Sem.run_bind,pZ hd,Result.andThen_ok,a5W,Bool.false_eq_true,if_false,run_load,h3]
 .cases ht
theorem a1U.overwrite{T:TypeId}{cs ys:List DV}(h:a1U T cs)(hy:ys.all b4G=true)(off:Nat):a1U T (Go.VM.overwrite cs off ys):=λT' hm=>by
 unfold Go.VM.overwrite at hm;rw[List.mem_append,List.mem_append]at hm;rcases hm with(hm|hm)|hm
 .exact h T' (List.mem_of_mem_take hm)
 .exact a1U.b8j hy T' hm
 .exact h T' (List.mem_of_mem_drop hm)
theorem a8w{sX cs:List DV}(hc:Go.VM.sT (.ag sX)=some cs):sX.all b4G=true/\cs=sX:=by
 simp only[Go.VM.sT]at hc;split at hc
 .rename_i h;cases hc;exact⟨h,rfl⟩
 .cases hc
theorem a6X{d:DV}{cs:List DV}(hc:Go.VM.sT d=some cs):cs.all b4G=true:=by
 cases d with
 |d y=>cases hc;exact f2Q.2 λc hm=>by obtain⟨y,_,rfl⟩:=List.mem_map.1 hm;rfl
 |ag sX=>obtain⟨h,rfl⟩:=a8w hc;exact h
 |undef=>cases hc
 |it _=>cases hc
 |cJ _=>cases hc
 |wL _=>cases hc
 |ptr _ _=>cases hc;rfl
 |ep _=>cases hc;rfl
 |mp _=>cases hc;rfl
 |fn _=>cases hc;rfl
 |pC=>cases hc;rfl
 |clo _ _=>cases hc;rfl
theorem a1v{v:Value}{d:DV}{cs:List DV}(h:TV R μ w v d)(hc:Go.VM.sT d=some cs):
  v.cells.size=cs.length/\∀(i:Nat) (c:DV),cs[i]? =some c->c.cell=true/\TV R μ w (v.cells.getD i undef) c/\(v.cells.getD i undef).oneCell'=true:=by
 have one:∀(u:Value) (c:DV),u.cells=#[u]->u.oneCell'=true->c.cell=true->TV R μ w u c->u.cells.size=[c].length/\∀(i:Nat) (c':DV),[c][i]? =some c'->c'.cell=true/\TV R μ w (u.cells.getD i undef) c'/\(u.cells.getD i undef).oneCell'=true:=λu c h1 h2 h3 h4=>by
  rw[h1];refine⟨rfl,λi c' hi=>?_⟩;cases i with
  |zero=>simp at hi;subst hi;exact⟨h3,h4,h2⟩
  |succ i=>simp at hi
 cases h with
 |d v x h=>simp only[Go.VM.sT,f2T]at hc;subst hc;obtain⟨h1,h2⟩:=h.cells;refine⟨by simp[h1],λi c hi=>?_⟩;rw[f2X]at hi;obtain⟨y,hy,rfl⟩:=f2M.1 hi;obtain⟨h3,h4⟩:=h2 i y hy;exact⟨h3,.d _ _ h4,h4.a6V h3⟩
 |undef v=>cases hc
 |it k=>cases hc
 |cJ vs ds h1 h2=>cases hc
 |ptr k off=>cases hc;exact one _ _ rfl rfl rfl (.ptr k off)
 |ep b o cs h=>cases hc;exact one _ _ rfl rfl rfl (.ep b o cs h)
 |mp k=>cases hc;exact one _ _ rfl rfl rfl (.mp k)
 |fn f=>cases hc;exact one _ _ rfl rfl rfl (.fn f)
 |pC b=>cases hc;exact one _ _ rfl rfl rfl (.pC b)
 |wL T=>cases hc
 |clo f vs cs h1 h2=>cases hc;exact one _ _ rfl rfl rfl (.clo f vs cs h1 h2)
 |ag vs cs h1 h2 h3 h4=>obtain⟨_,rfl⟩:=a8w hc;exact⟨h1,λi c hi=>⟨h3 i c hi,h4 i c hi,h2 i (f2O.1 hi).1⟩⟩
end
end Go.VM
namespace Go.VM
open Go Go.RowKit
section
variable {P:Program} {G:GT} {st:St} {out:Out}
theorem b8m{o:Oper}{x:Operand}(ho:o.op=.move x\/o.op=.assign x)(h:a1s G x st=some out):qF P G o st out:=by simp only[a1s,f2T]at h;subst h;refine bH λbase R μ a w hr=>⟨a.eval x,?_,hr.eval x,hr.qV x⟩;rcases ho with ho|ho<;>simp[execOp,ho]
theorem V.tW{R:Nat->Nat->Prop}{w:World}{v:Value}{b:Bool}(h:V R w v (.bool b)):v=.bool b:=by cases h;rfl
theorem V.rM{R:Nat->Nat->Prop}{w:World}{v:Value}{k:IntKind}{n:Int}(h:V R w v (.int k n)):v=.int k n:=by cases h;rfl
theorem V.mT{R:Nat->Nat->Prop}{w:World}{v:Value}{s:List UInt8}(h:V R w v (.str s)):v=.string ⟨s.toArray⟩:=by cases h;rfl
theorem V.jM{R:Nat->Nat->Prop}{w:World}{v:Value}(h:V R w v .aJ):∃ao,v=.slice ao 0 0:=by cases h;exact⟨_,rfl⟩
theorem V.a1W{R:Nat->Nat->Prop}{w:World}{v:Value}{ds:List D}(h:V R w v (.agg ds)):∃cs,v=.agg cs/\cs.size=ds.length/\(∀(i:Nat) (d:D),ds[i]? =some d->d.one=true/\V R w (cs.getD i undef) d):=by cases h;exact⟨_,rfl,by assumption,λi d hi=>⟨by rename_i h _;exact h i d hi,by rename_i h;exact h i d hi⟩⟩
theorem TV.b6h{R:Nat->Nat->Prop}{μ:Nat->Nat}{w:World}{v:Value}{k off:Nat}(h:TV R μ w v (.ptr k off)):v=.pointer (some ⟨μ k,off,none⟩):=by cases h;rfl
theorem TV.a3r{R:Nat->Nat->Prop}{μ:Nat->Nat}{w:World}{v:Value}{cs:List D}(h:TV R μ w v (.ep cs)):∃b o,v=.pointer (some ⟨b,o,none⟩)/\Run R w b o cs:=by cases h;exact⟨_,_,rfl,by assumption⟩
theorem TV.d7R{R:Nat->Nat->Prop}{μ:Nat->Nat}{w:World}{v:Value}{k:Nat}(h:TV R μ w v (.mp k)):v=.map (some (μ k)):=by cases h;rfl
theorem TV.d7S{R:Nat->Nat->Prop}{μ:Nat->Nat}{w:World}{v:Value}{k:Nat}(h:TV R μ w v (.it k)):v=.pointer (some ⟨μ k,0,none⟩):=by cases h;rfl
theorem TV.d7T{R:Nat->Nat->Prop}{μ:Nat->Nat}{w:World}{v:Value}{f:FuncId}(h:TV R μ w v (.fn f)):v=.func (.func f) #[] #[]:=by cases h;rfl
theorem TV.a6Y{R:Nat->Nat->Prop}{μ:Nat->Nat}{w:World}{v:Value}{f:FuncId}{cs:List DV}(h:TV R μ w v (.clo f cs)):∃vs,v=.func (.func f) #[] vs/\vs.size=cs.length/\∀(i:Nat) (c:DV),cs[i]? =some c->TV R μ w (vs.getD i Go.undef) c:=by cases h;exact⟨_,rfl,by assumption,by assumption⟩
theorem TV.d2q{R:Nat->Nat->Prop}{μ:Nat->Nat}{w:World}{v:Value}{ds:List D}(h:TV R μ w v (.cJ ds)):∃vs,v=.tuple vs/\vs.size=ds.length/\(∀(i:Nat) (d:D),ds[i]? =some d->V R w (vs.getD i Go.undef) d):=by cases h;exact⟨_,rfl,by assumption,by assumption⟩
section
variable {base:cN} {R:Nat->Nat->Prop} {μ:Nat->Nat} {a:Act} {w:World}
theorem Rel.mD(h:Rel P G base R μ st a w){x:Operand}{d:DV}(hx:st.eval G x=d):TV R μ w (a.eval x) d:=by rw[<-hx];exact h.eval x
theorem Rel.dA(h:Rel P G base R μ st a w){x:Operand}{k off:Nat}(hx:st.eval G x=.ptr k off):a.eval x=.pointer (some ⟨μ k,off,none⟩):=(h.mD hx).b6h
theorem Rel.tX(h:Rel P G base R μ st a w){x:Operand}{k:IntKind}{n:Int}(hx:st.eval G x=.d (.int k n)):a.eval x=.int k n:=(h.jI hx).rM
theorem Rel.a1w(h:Rel P G base R μ st a w){x:Operand}{b:Bool}(hx:st.eval G x=.d (.bool b)):a.eval x=.bool b:=(h.jI hx).tW
theorem Rel.c3u(h:Rel P G base R μ st a w){x:Operand}(hx:st.eval G x=.pC):∃b,a.eval x=.bool b:=by
 have:=h.mD hx;generalize a.eval x=v at this;cases this with
 |pC b=>exact⟨b,rfl⟩
theorem Rel.a6Z(h:Rel P G base R μ st a w){x:Operand}{s:List UInt8}(hx:st.eval G x=.d (.str s)):a.eval x=.string ⟨s.toArray⟩:=(h.jI hx).mT
theorem Rel.a5X(h:Rel P G base R μ st a w){x:Operand}{k:Nat}(hx:st.eval G x=.mp k):a.eval x=.map (some (μ k)):=(h.mD hx).d7R
theorem Rel.c7m(h:Rel P G base R μ st a w){x:Operand}{k:Nat}(hx:st.eval G x=.it k):a.eval x=.pointer (some ⟨μ k,0,none⟩):=(h.mD hx).d7S
theorem Rel.b1b(h:Rel P G base R μ st a w){x:Operand}{f:FuncId}(hx:st.eval G x=.fn f):a.eval x=.func (.func f) #[] #[]:=(h.mD hx).d7T
end
theorem c7n{o:Oper}{c x y:Operand}(ho:o.op=.pick c x y)(h:b0W G c x y st=some out):qF P G o st out:=by
 unfold b0W at h;split at h<;>simp at h;rename_i t hc;subst h;refine bH λbase R μ a w hr=>⟨if t then a.eval x else a.eval y,?_,?_,trivial⟩
 .simp[execOp,ho,hr.a1w hc,asBool]
 .cases t
  .exact hr.eval y
  .exact hr.eval x
theorem b8n{o:Oper}{t:TypeId}{x:Operand}(ho:o.op=.load t x)(h:a9p P G t x st=some out):qF P G o st out:=by
 unfold a9p at h;split at h
 .rename_i k off hx;split at h
  .rename_i cs hk;simp only[f2M]at h;obtain⟨y,hy,rfl⟩:=h;refine bH λbase R μ a w hr=>?_;obtain⟨_,_,hob⟩:=hr.gM k _ hk;have cD:=(a8u.a3q hob).drop off;rw[Nat.zero_add]at cD;obtain⟨v,h1,h2,h3⟩:=vH (P:=P) cD hy;refine⟨v,?_,h2,?_⟩
   .simp[execOp,ho,hr.dA hx,Instr.loadAt,Instr.sureAddr,h1]
   .unfold qV;split
    .rename_i es;exact h3 es rfl
    .trivial
  .cases h
 .rename_i cs hx;simp only[f2M]at h;obtain⟨y,hy,rfl⟩:=h;refine bH λbase R μ a w hr=>?_;obtain⟨b,off,he,cD⟩:=(hr.mD hx).a3r;obtain⟨v,h1,h2,h3⟩:=a2I (P:=P) cD.d7Q hy;exact⟨v,by simp[execOp,ho,he,Instr.loadAt,Instr.sureAddr,h1],.d _ _ h2,trivial⟩
 .cases h
theorem b6i{o:Oper}{x:Operand}(ho:o.op=.nilCheck x)(h:tG G x st=some out):qF P G o st out:=by
 unfold tG at h;split at h<;>simp at h<;>subst h
 .rename_i k off hx;exact bH λbase R μ a w hr=>⟨a.eval x,by simp[execOp,ho,hr.dA hx],hr.mD hx,trivial⟩
 .rename_i cs hx;refine bH λbase R μ a w hr=>⟨a.eval x,?_,hr.mD hx,trivial⟩;obtain⟨b,off,he,cD⟩:=(hr.mD hx).a3r;simp[execOp,ho,he]
 .rename_i f hx;exact bH λbase R μ a w hr=>⟨a.eval x,by simp[execOp,ho,hr.b1b hx],hr.mD hx,trivial⟩
 .rename_i f cs hx;refine bH λbase R μ a w hr=>⟨a.eval x,?_,hr.mD hx,trivial⟩;obtain⟨vs,he,_⟩:=(hr.mD hx).a6Y;simp[execOp,ho,he]
theorem d7U{o:Oper}{op:UnOp}{t:TypeId}{x:Operand}(ho:o.op=.unOp op t x)(h:vUn G op x st=some out):qF P G o st out:=by
 unfold vUn at h;split at h
 .rename_i y hx;simp only[f2M]at h;obtain⟨c,hc,rfl⟩:=h;unfold c1r at hc;split at hc<;>simp only[f2T,reduceCtorEq]at hc<;>subst hc
  .rename_i k n;exact bH λbase R μ a w hr=>⟨.int k (k.wrap (0-n)),by simp[execOp,ho,hr.tX hx,Op.unary,Op.intArith],.d _ _ (.int _ _),trivial⟩
  .rename_i b;exact bH λbase R μ a w hr=>⟨.bool !b,by simp[execOp,ho,hr.a1w hx,Op.unary],.d _ _ (.bool _),trivial⟩
 .cases h
theorem b8o{o:Oper}{x:Operand}{i:Nat}(ho:o.op=.extract x i)(h:yZ G x i st=some out):qF P G o st out:=by
 unfold yZ at h;split at h
 .rename_i ds hx;simp only[f2M]at h;obtain⟨y,hy,rfl⟩:=h;refine bH λbase R μ a w hr=>?_;obtain⟨vs,he,hU,hv⟩:=(hr.mD hx).d2q;have aI:i<vs.size:=by rw[hU];exact(f2O.1 hy).1
  exact⟨vs.getD i undef,by simp[execOp,ho,he,Instr.extract,aI],.d _ _ (hv i y hy),trivial⟩
 .cases h
theorem tY{t:TypeId}{i off:Nat}{u:TypeId}(h:aH P t i=some (off,u)):∃fs f,P.underlying t=some (.struct fs)/\fs[i]? =some f/\f.offset=off/\f.type=u:=by
 unfold aH at h;split at h
 .rename_i fs hfs;simp only[f2M]at h;obtain⟨f,hf,he⟩:=h;simp at he;exact⟨fs,f,hfs,hf,he.1,he.2⟩
 .cases h
theorem b8p{R:Nat->Nat->Prop}{w:World}{u:TypeId}{cs:Array Value}{ds:List D}{off:Nat}{y:D}(hU:cs.size=ds.length)(hv:∀(i:Nat) (d:D),ds[i]? =some d->d.one=true/\V R w (cs.getD i undef) d)(ht:takeD P u (ds.drop off)=some y):∃v,(part u cs off).run P w=.ok v w/\V R w v y:=by
 unfold takeD at ht;split at ht
 .rename_i d hd;split at ht
  .rename_i a5W;split at ht
   .rename_i hle;simp at ht;subst ht;rw[List.length_drop]at hle;by_cases h0:P.cellsOf u=0
    .refine⟨.agg (cs.extract off (off+P.cellsOf u)),?_,?_⟩
     .unfold part;simp only[Sem.run_bind,pZ hd,Result.andThen_ok,a5W,if_true,run_sizeOf hd,Sem.run_pure]
     .rw[h0];exact .agg _ _ (by simp;omega) (by simp) (by simp)
    .refine⟨.agg (cs.extract off (off+P.cellsOf u)),?_,.agg _ _ (by simp;omega) (λi d hi=>?_) (λi d hi=>?_)⟩
     .unfold part;simp only[Sem.run_bind,pZ hd,Result.andThen_ok,a5W,if_true,run_sizeOf hd,Sem.run_pure]
     .rw[List.getElem?_take]at hi;split at hi
      .rw[f3g]at hi;exact(hv _ d hi).1
      .cases hi
     .rw[List.getElem?_take]at hi;split at hi
      .rename_i aI;rw[f3g]at hi;have:=(hv _ d hi).2;have b0k:off+i<cs.size:=by rw[hU];exact(f2O.1 hi).1
       have hge:(cs.extract off (off+P.cellsOf u)).getD i undef=cs.getD (off+i) undef:=by
        simp[f2P,Array.getElem?_extract,b0k];rw[if_pos (by omega)]
        rfl
       rw[hge];exact this
      .cases hi
   .cases ht
  .rename_i a5W;have h0:ds[off]? =some y:=by rw[List.head?_eq_getElem?,f3g]at ht;simpa using ht
   have aI:off<cs.size:=by rw[hU];exact(f2O.1 h0).1
   refine⟨cs.getD off undef,?_,(hv off y h0).2⟩;unfold part;simp only[Sem.run_bind,pZ hd,Result.andThen_ok,a5W,Bool.false_eq_true,if_false];simp[aI]
 .cases ht
theorem c4Q{o:Oper}{t:TypeId}{x:Operand}{i:Nat}(ho:o.op=.field t x i)(h:a5R P G t x i st=some out):qF P G o st out:=by
 unfold a5R at h;split at h
 .rename_i cs off u hx hf;simp only[f2M]at h;obtain⟨y,hy,rfl⟩:=h;obtain⟨fs,f,h1,h2,rfl,rfl⟩:=tY hf;refine bH λbase R μ a w hr=>?_;obtain⟨vs,he,hU,hv⟩:=(hr.jI hx).a1W;obtain⟨v,hp,hvy⟩:=b8p (P:=P) hU hv hy;exact⟨v,by simp[execOp,ho,he,Instr.field,run_underlying h1,h2,asAgg,hp],.d _ _ hvy,trivial⟩
 .cases h
theorem b1c{n:D}{m j:Nat}(h:idx n m=some j):∃k i,n=.int k i/\0<=i/\i<m/\j=i.toNat/\j<m:=by
 unfold idx at h;split at h
 .rename_i k i;split at h
  .rename_i hi;simp at h;exact⟨k,i,rfl,hi.1,hi.2,h.symm,by omega⟩
  .cases h
 .cases h
theorem c4R{o:Oper}{t:TypeId}{x i:Operand}(ho:o.op=.index t x i)(h:a5S P G t x i st=some out):qF P G o st out:=by
 unfold a5S at h;split at h
 .rename_i s n hu hx hi;simp only[f3b,f2M]at h;obtain⟨j,hj,b,hb,rfl⟩:=h;obtain⟨k,m,rfl,h0,h1,rfl,_⟩:=b1c hj;refine bH λbase R μ a w hr=>⟨.int .u8 b.toNat,?_,.d _ _ (.int _ _),trivial⟩;have hg:(⟨s.toArray⟩:ByteArray)[m.toNat]? =some b:=by
   have hl:m.toNat<s.length:=by omega
   have:(⟨s.toArray⟩:ByteArray)[m.toNat]? =s[m.toNat]? :=by simp only[getElem?_def,ByteArray.size,ByteArray.getElem_eq_getElem_data];simp
   rw[this];exact hb
  simp[execOp,ho,hr.a6Z hx,hr.tX hi,Instr.index,run_underlying hu,asIntOf,h0,hg]
 .rename_i len e cs n hu hx hi;simp only[f3b,f2M]at h;obtain⟨j,hj,y,hy,rfl⟩:=h;obtain⟨k,m,rfl,h0,h1,rfl,_⟩:=b1c hj;refine bH λbase R μ a w hr=>?_;obtain⟨vs,he,hU,hv⟩:=(hr.jI hx).a1W;obtain⟨v,hp,hvy⟩:=b8p (P:=P) hU hv hy;refine⟨v,?_,.d _ _ hvy,trivial⟩;have hd:∃d,P.underlying e=some d:=by
   unfold takeD at hy;split at hy
   .rename_i d hd;exact⟨d,hd⟩
   .cases hy
  obtain⟨d,hd⟩:=hd;simp[execOp,ho,he,hr.tX hi,Instr.index,run_underlying hu,asIntOf,h0,h1,run_sizeOf hd,hp]
 .cases h
end
end Go.VM
namespace Go.VM
open Go Go.RowKit
section
variable {P:Program} {G:GT} {st:St} {out:Out}
variable {base:cN} {R:Nat->Nat->Prop} {μ:Nat->Nat} {a:Act} {w:World}
theorem c3v(x y:List UInt8):((⟨x.toArray⟩:ByteArray)==⟨y.toArray⟩)=(x==y):=by rw[beq_toListBytes,ByteArray.toList_mk,ByteArray.toList_mk]
theorem c7o{op:BinOp}{t:TypeId}{x y:Operand}{p q c:D}{u v:Value}(hu:V R w u p)(hv:V R w v q)(h:d2m op p q=some c):
  ∃r,(do eqGuard op t x y u v;binOp op t u v:Sem Value).run P w=.ok r w/\V R w r c:=by
 unfold d2m at h;split at h
 .rename_i k m k' n;obtain rfl:=hu.rM;obtain rfl:=hv.rM;split at h
  .cases h
  .rename_i hk;simp only[ne_eq,Decidable.not_not]at hk;subst hk;have hg:∀o,(eqGuard o t x y (.int k m) (.int k n)).run P w=.ok () w:=λo=>by cases o<;>simp[eqGuard]
   cases op<;>simp only[f2T,reduceCtorEq]at h
   case quo=>
    split at h
    .cases h
    .rename_i hz;simp only[f2T]at h;subst h;exact⟨_,by simp only[Sem.run_bind,hg,Result.andThen_ok];simp[binOp,Op.intDiv,hz],.int _ _⟩
   case rem=>
    split at h
    .cases h
    .rename_i hz;simp only[f2T]at h;subst h;exact⟨_,by simp only[Sem.run_bind,hg,Result.andThen_ok];simp[binOp,Op.intDiv,hz],.int _ _⟩
   all_goals subst h
   case add=>exact⟨_,by simp only[Sem.run_bind,hg,Result.andThen_ok];simp[binOp,Op.intArith],.int _ _⟩
   case sub=>exact⟨_,by simp only[Sem.run_bind,hg,Result.andThen_ok];simp[binOp,Op.intArith],.int _ _⟩
   case mul=>exact⟨_,by simp only[Sem.run_bind,hg,Result.andThen_ok];simp[binOp,Op.intArith],.int _ _⟩
   all_goals exact⟨_,by simp only[Sem.run_bind,hg,Result.andThen_ok];simp only[binOp,ne_eq,not_true_eq_false,if_false,Op.intCmp,Sem.run_pure],.bool _⟩
 .rename_i m n;obtain rfl:=hu.mT;obtain rfl:=hv.mT;have hg:∀o,(eqGuard o t x y (.string ⟨m.toArray⟩) (.string ⟨n.toArray⟩)).run P w=.ok () w:=λo=>by cases o<;>simp[eqGuard]
  cases op<;>simp only[f2T,reduceCtorEq]at h
  case add=>
   split at h
   .rename_i hle;simp only[f2T]at h;subst h;refine⟨.string ⟨(m++n).toArray⟩,?_,.str _⟩;have hb:(⟨m.toArray⟩:ByteArray)++⟨n.toArray⟩=⟨(m++n).toArray⟩:=by apply ByteArray.ext;simp[ByteArray.data_append]
    have hs: ¬(((⟨m.toArray⟩:ByteArray).size+(⟨n.toArray⟩:ByteArray).size:Nat):Int)>IntKind.i64.max:=by
     show ¬((m.toArray.size+n.toArray.size:Nat):Int)>9223372036854775807
     simp only[List.size_toArray];omega
    simp only[Sem.run_bind,hg,Result.andThen_ok];simp only[binOp,Op.stringOp,if_neg hs,Sem.run_pure,hb]
   .cases h
  all_goals subst h
  all_goals exact⟨_,by simp only[Sem.run_bind,hg,Result.andThen_ok];simp only[binOp,Op.stringOp,Sem.run_pure,ByteArray.toList_mk],.bool _⟩
 .cases h
theorem c4S{d:TypeDesc}{t:TypeId}{p q:D}{u v:Value}{r:Bool}(n:Nat)(ht:P.underlying t=some d)(hd:pD d=true)(hu:V R w u p)(hv:V R w v q)(h:yW p q=some r)(hk:rL P t p=true):(Op.equalIn (n+1) t u v).run P w=.ok r w:=by
 unfold yW at h;split at h
 .rename_i k m k' n';obtain rfl:=hu.rM;obtain rfl:=hv.rM;split at h<;>simp at h;rename_i sW;subst sW h;unfold rL at hk;rw[ht]at hk;cases d<;>simp[qK]at hk;exact run_equalIn_int w n t k _ m n' ht
 .obtain rfl:=hu.mT;obtain rfl:=hv.mT;simp at h;subst h;unfold rL at hk;rw[ht]at hk;cases d<;>simp[qK]at hk;rw[run_equalIn_string w n t _ _ ht,ByteArray.toList_mk,ByteArray.toList_mk]
 .obtain rfl:=hu.tW;obtain rfl:=hv.tW;simp at h;subst h;unfold rL at hk;rw[ht]at hk;cases d<;>simp[qK]at hk;exact run_equalIn_bool w n t _ _ ht
 .cases h
theorem oH{t:TypeId}(h:(P.info? t).isSome=true)(w:World):(sizeOf t).run P w=.ok (P.cellsOf t) w:=by
 cases hi:P.info? t with
 |none=>simp[hi]at h
 |some i=>simp[sizeOf,typeInfo,hi,Program.cellsOf]
theorem xG(w:World):∀(fs:List Field),(∀f∈fs,(P.info? f.type).isSome=true)->
  (fs.mapM (λf=>do pure (f.offset, <- sizeOf f.type)):Sem (List (Nat×Nat))).run P w=.ok (fs.map λf=>(f.offset,P.cellsOf f.type)) w
 |[],_=>by simp
 |f::fs,h=>by have h1:=oH (h f (by simp)) w;have h2:=xG w fs (λf hf=>h f (by simp[hf]));simp only[List.mapM_cons,Sem.run_bind,h1,Result.andThen_ok,Sem.run_pure,h2,List.map_cons]
theorem b1d{t:TypeId}{z:List D}(h:jA P t=some z)(w:World):∃v,(zeroValue t).run P w=.ok v w/\v.cells.size=z.length/\(∀(i:Nat) (d:D),z[i]? =some d->d.one=true/\V R w (v.cells.getD i undef) d):=by
 unfold jA at h;cases hi:P.info? t with
 |none=>simp[hi]at h
 |some i=>
  cases hz:i.zero with
  |none=>simp[hi,hz]at h
  |some v=>simp[hi,hz]at h;obtain⟨h1,h2⟩:=a3p (R:=R) (w:=w) h;refine⟨v,by simp[zeroValue,typeInfo,hi,hz],by simpa using h1,λj d hj=>⟨(h2 j d hj).2,?_⟩⟩;have:=(h2 j d hj).1;simpa[f2P,List.getD]using this
theorem wD(off:Nat):∀(l:List Value) (k:Nat) (cs:Array Value) (i:Nat),((l.zipIdx k).foldl (λcs (x:Value×Nat)=>cs.setIfInBounds (off+x.2) x.1) cs)[i]? =
  if off+k<=i/\i<off+k+l.length/\i<cs.size then l[i-(off+k)]? else cs[i]?
 |[],k,cs,i=>by simp;omega
 |v::l,k,cs,i=>by
  simp only[List.zipIdx_cons,List.foldl_cons];rw[wD off l (k+1) _ i];simp only[Array.size_setIfInBounds,List.length_cons];by_cases h1:i=off+k
  .subst h1;rw[if_neg (by omega)];by_cases h2:off+k<cs.size
   .rw[if_pos ⟨by omega,by omega,h2⟩];simp[h2]
   .rw[if_neg (by omega)];simp[h2]
  .rw[Array.getElem?_setIfInBounds_ne (by omega)];by_cases h2:off+(k+1)<=i/\i<off+(k+1)+l.length/\i<cs.size
   .rw[if_pos h2,if_pos ⟨by omega,by omega,h2.2.2⟩];have:i-(off+k)=(i-(off+(k+1)))+1:=by omega
    rw[this];simp
   .rw[if_neg h2,if_neg (by omega)]
theorem fold_size(off:Nat):∀(l:List (Value×Nat)) (cs:Array Value),(l.foldl (λcs (x:Value×Nat)=>cs.setIfInBounds (off+x.2) x.1) cs).size=cs.size
 |[],cs=>rfl
 |_::l,cs=>by simp only[List.foldl_cons];rw[fold_size off l];simp
theorem c3w{t:TypeId}{fs:Array Field}(ht:P.underlying t=some (.struct fs)){pl:Nat->Option (Nat×Nat)}(hpl:∀i,pl i=(fs[i]?).map λf=>(f.offset,P.cellsOf f.type)):
  ∀(ps:List (Nat×Value)) (qs:List (Nat×D)) (cs:Array Value) (z r:List D),ps.length=qs.length->(∀(i:Nat) (p:Nat×Value) (q:Nat×D),ps[i]? =some p->qs[i]? =some q->p.1=q.1/\V R w p.2 q.2)->
   cs.size=z.length->(∀(i:Nat) (d:D),z[i]? =some d->d.one=true/\V R w (cs.getD i undef) d)->b4F P t z qs=some r->
   ∃sX,Instr.fill pl cs ps=some sX/\sX.size=r.length/\(∀(i:Nat) (d:D),r[i]? =some d->d.one=true/\V R w (sX.getD i undef) d)
 |[],[],cs,z,r,_,_,hU,hz,h=>by simp[b4F]at h;subst h;exact⟨cs,rfl,hU,hz⟩
 |[],_::_,_,_,_,hl,_,_,_,_=>by simp at hl
 |_::_,[],_,_,_,hl,_,_,_,_=>by simp at hl
 |(i,v)::ps,(j,d)::qs,cs,z,r,hl,hp,hU,hz,h=>by
  obtain⟨hij,hvd⟩:=hp 0 _ _ rfl rfl
  change i=j at hij
  subst hij
  change V R w v d at hvd
  simp only[b4F]at h;cases hf:aH P t i with
  |none=>simp[hf]at h
  |some p=>
   obtain⟨off,u⟩:=p;obtain⟨fs',f,h1,h2,rfl,rfl⟩:=tY hf;rw[ht]at h1;cases h1;simp only[hf]at h;split at h
   .rename_i hc;obtain⟨pR,hcv⟩:=hvd.cells;have b8q:Instr.fill pl cs ((i,v)::ps)=Instr.fill pl (v.cells.zipIdx.foldl (λcs (c,j)=>cs.setIfInBounds (f.offset+j) c) cs) ps:=by
     have:(decide (v.cells.size≠P.cellsOf f.type)||decide (f.offset+v.cells.size>cs.size))=false:=by rw[pR,hU];simp;omega
     simp only[Instr.fill,hpl,h2,Option.map_some,this,Bool.false_eq_true,if_false]
    rw[b8q];have c7p:(v.cells.zipIdx.foldl (λcs (c,j)=>cs.setIfInBounds (f.offset+j) c) cs)=(v.cells.toList.zipIdx 0).foldl (λcs (x:Value×Nat)=>cs.setIfInBounds (f.offset+x.2) x.1) cs:=by rw[<-Array.foldl_toList,Array.toList_zipIdx]
    rw[c7p];refine c3w ht hpl ps qs _ (overwrite z f.offset d.cells) r (by simpa using hl) (λk p q hp' hq'=>hp (k+1) p q (by simpa using hp') (by simpa using hq')) ?_ ?_ h
    .rw[fold_size,hU];simp only[overwrite,List.length_append,List.length_take,List.length_drop];omega
    .intro k c hk;rw[f2P,wD];simp only[Nat.add_zero,Array.length_toList];simp only[overwrite]at hk;by_cases tQ:k<f.offset
     .rw[List.append_assoc,f2Y (by simp;omega),List.getElem?_take,if_pos tQ]at hk;rw[if_neg (by omega)];have:=hz k c hk
      rwa[f2P]at this
     .by_cases hhi:k<f.offset+d.cells.length
      .rw[List.append_assoc,f2V (by simp;omega),f2Y (by simp;omega)]at hk;have a1X:min f.offset z.length=f.offset:=by omega
       simp only[List.length_take,a1X]at hk;rw[if_pos (by rw[pR,hU];omega)];have:=hcv _ c hk;simpa[f2P]using this
      .rw[f2V (by simp;omega)]at hk;simp only[List.length_append,List.length_take,f3g]at hk;have a1X:min f.offset z.length=f.offset:=by omega
       rw[a1X,show f.offset+d.cells.length+(k-(f.offset+d.cells.length))=k by omega]at hk;rw[if_neg (by rw[pR];omega)];have:=hz k c hk
       rwa[f2P]at this
   .cases h
def c1w(R:Nat->Nat->Prop)(μ:Nat->Nat)(w:World)(v:Value)(cs:List DV):Prop:=v.cells.size=cs.length/\∀(i:Nat) (c:DV),cs[i]? =some c->c.cell=true/\TV R μ w (v.cells.getD i undef) c/\(v.cells.getD i undef).oneCell'=true
theorem b8r{t:TypeId}{fs:Array Field}(ht:P.underlying t=some (.struct fs)){pl:Nat->Option (Nat×Nat)}(hpl:∀i,pl i=(fs[i]?).map λf=>(f.offset,P.cellsOf f.type)):
  ∀(ps:List (Nat×Value)) (qs:List (Nat×List DV)) (cs:Array Value) (z r:List DV),ps.length=qs.length->(∀(i:Nat) (p:Nat×Value) (q:Nat×List DV),ps[i]? =some p->qs[i]? =some q->p.1=q.1/\c1w R μ w p.2 q.2)->
   cs.size=z.length->(∀(i:Nat) (d:DV),z[i]? =some d->d.cell=true/\TV R μ w (cs.getD i undef) d/\(cs.getD i undef).oneCell'=true)->a6T P t z qs=some r->
   ∃sX,Instr.fill pl cs ps=some sX/\sX.size=r.length/\(∀(i:Nat) (d:DV),r[i]? =some d->d.cell=true/\TV R μ w (sX.getD i undef) d/\(sX.getD i undef).oneCell'=true)
 |[],[],cs,z,r,_,_,hU,hz,h=>by simp[a6T]at h;subst h;exact⟨cs,rfl,hU,hz⟩
 |[],_::_,_,_,_,hl,_,_,_,_=>by simp at hl
 |_::_,[],_,_,_,hl,_,_,_,_=>by simp at hl
 |(i,v)::ps,(j,d)::qs,cs,z,r,hl,hp,hU,hz,h=>by
  obtain⟨hij,hvd⟩:=hp 0 _ _ rfl rfl
  change i=j at hij
  subst hij
  change c1w R μ w v d at hvd
  simp only[a6T]at h;cases hf:aH P t i with
  |none=>simp[hf]at h
  |some p=>
   obtain⟨off,u⟩:=p;obtain⟨fs',f,h1,h2,rfl,rfl⟩:=tY hf;rw[ht]at h1;cases h1;simp only[hf]at h;split at h
   .rename_i hc;obtain⟨pR,hcv⟩:=hvd;have b8q:Instr.fill pl cs ((i,v)::ps)=Instr.fill pl (v.cells.zipIdx.foldl (λcs (c,j)=>cs.setIfInBounds (f.offset+j) c) cs) ps:=by
     have:(decide (v.cells.size≠P.cellsOf f.type)||decide (f.offset+v.cells.size>cs.size))=false:=by rw[pR,hU];simp;omega
     simp only[Instr.fill,hpl,h2,Option.map_some,this,Bool.false_eq_true,if_false]
    rw[b8q];have c7p:(v.cells.zipIdx.foldl (λcs (c,j)=>cs.setIfInBounds (f.offset+j) c) cs)=(v.cells.toList.zipIdx 0).foldl (λcs (x:Value×Nat)=>cs.setIfInBounds (f.offset+x.2) x.1) cs:=by rw[<-Array.foldl_toList,Array.toList_zipIdx]
    rw[c7p];refine b8r ht hpl ps qs _ (overwrite z f.offset d) r (by simpa using hl) (λk p q hp' hq'=>hp (k+1) p q (by simpa using hp') (by simpa using hq')) ?_ ?_ h
    .rw[fold_size,hU];simp only[overwrite,List.length_append,List.length_take,List.length_drop];omega
    .intro k c hk;rw[f2P,wD];simp only[Nat.add_zero,Array.length_toList];simp only[overwrite]at hk;by_cases tQ:k<f.offset
     .rw[List.append_assoc,f2Y (by simp;omega),List.getElem?_take,if_pos tQ]at hk;rw[if_neg (by omega)];have:=hz k c hk
      rwa[f2P]at this
     .by_cases hhi:k<f.offset+d.length
      .rw[List.append_assoc,f2V (by simp;omega),f2Y (by simp;omega)]at hk;have a1X:min f.offset z.length=f.offset:=by omega
       simp only[List.length_take,a1X]at hk;rw[if_pos (by rw[pR,hU];omega)];have:=hcv _ c hk;simpa[f2P]using this
      .rw[f2V (by simp;omega)]at hk;simp only[List.length_append,List.length_take,f3g]at hk;have a1X:min f.offset z.length=f.offset:=by omega
       rw[a1X,show f.offset+d.length+(k-(f.offset+d.length))=k by omega]at hk;rw[if_neg (by rw[pR];omega)];have:=hz k c hk
       rwa[f2P]at this
   .cases h
theorem a3s(hr:Rel P G base R μ st a w):∀ {l:List (Nat×Operand)} {qs:List (Nat×D)},a0U G st l=some qs->
  l.length=qs.length/\∀(i:Nat) (p:Nat×Value) (q:Nat×D),(l.map λx=>(x.1,a.eval x.2))[i]? =some p->qs[i]? =some q->p.1=q.1/\V R w p.2 q.2
 |[],qs,h=>by simp[a0U]at h;subst h;simp
 |(j,x)::l,qs,h=>by
  simp only[a0U]at h;split at h
  .rename_i y ds hy hds;simp at h;subst h;obtain⟨h1,h2⟩:=a3s hr hds;refine⟨by simp[h1],λi p q hp hq=>?_⟩;cases i with
   |zero=>simp at hp hq;subst hp hq;exact⟨rfl,hr.jI hy⟩
   |succ i=>simp at hp hq;exact h2 i p q (by simpa using hp) hq
  .cases h
theorem a9t(hr:Rel P G base R μ st a w):∀ {l:List (Nat×Operand)} {qs:List (Nat×List DV)},xB G st l=some qs->
  l.length=qs.length/\∀(i:Nat) (p:Nat×Value) (q:Nat×List DV),(l.map λx=>(x.1,a.eval x.2))[i]? =some p->qs[i]? =some q->p.1=q.1/\c1w R μ w p.2 q.2
 |[],qs,h=>by simp[xB]at h;subst h;simp
 |(j,x)::l,qs,h=>by
  simp only[xB]at h;split at h
  .rename_i y ds hy hds;simp at h;subst h;obtain⟨h1,h2⟩:=a9t hr hds;refine⟨by simp[h1],λi p q hp hq=>?_⟩;cases i with
   |zero=>simp at hp hq;subst hp hq;exact⟨rfl,a1v (hr.eval x) hy⟩
   |succ i=>simp at hp hq;exact h2 i p q (by simpa using hp) hq
  .cases h
theorem c1x{t:TypeId}{z:List DV}(h:b8h P t=some z)(w:World):∃v,(zeroValue t).run P w=.ok v w/\v.cells.size=z.length/\(∀(i:Nat) (d:DV),z[i]? =some d->d.cell=true/\TV R μ w (v.cells.getD i undef) d/\(v.cells.getD i undef).oneCell'=true):=by
 unfold b8h at h;cases hi:P.info? t with
 |none=>simp[hi]at h
 |some i=>
  cases hz:i.zero with
  |none=>simp[hi,hz]at h
  |some v=>
   simp only[hi,hz,Option.bind_some]at h;split at h
   .rename_i cY;cases h;refine⟨v,by simp[zeroValue,typeInfo,hi,hz],by simp,λj d hj=>?_⟩;rw[f2X]at hj;obtain⟨y,hy,rfl⟩:=f2M.1 hj;have he:v.cells.getD j undef=y:=by
     have:v.cells[j]? =some y:=by simpa using hy
     simp[f2P,this]
    have h1:=f2Q.1 cY y (f2S hy);rw[he];unfold cellOf;split
    .rename_i x hx;exact⟨(vG (R:=R) (w:=w) hx).2,.d _ _ (vG hx).1,h1⟩
    .exact⟨rfl,.undef _,h1⟩
   .cases h
theorem c1y{o:Oper}{t:TypeId}{parts:Array (Nat×Operand)}(ho:o.op=.build t parts)(hs:cW P t=true)(h:a4A P G t parts st=some out):qF P G o st out:=by
 unfold a4A at h;split at h
 .rename_i z ps hz hps;simp only[f2M]at h;obtain⟨r,eK,rfl⟩:=h;unfold cW at hs;split at hs
  .rename_i fs hfs;refine bH λbase R μ a w hr=>?_;obtain⟨zv,hz1,hz2,hz3⟩:=c1x (R:=R) (μ:=μ) hz w;obtain⟨hl,hp⟩:=a9t hr hps;have hm:=xG w fs.toList (λf hf=>by simpa using f2Q.1 hs f hf);obtain⟨sX,hc1,hc2,hc3⟩:=b8r (R:=R) (μ:=μ) (w:=w) hfs (pl:=λi=>((fs.toList.map λf=>(f.offset,P.cellsOf f.type)).toArray)[i]?) (λi=>by simp)
    (parts.toList.map λx=>(x.1,a.eval x.2)) ps zv.cells z r (by simpa using hl) hp hz2 hz3 eK
   refine⟨.agg sX,?_,.ag _ _ hc2 (λi hi=>(hc3 i _ (f2R hi)).2.2) (λi d hi=>(hc3 i d hi).1) (λi d hi=>(hc3 i d hi).2.1),trivial⟩;have hmm:(fs.mapM (λf=>do pure (f.offset, <- sizeOf f.type)):Sem (Array (Nat×Nat))).run P w=.ok (fs.toList.map λf=>(f.offset,P.cellsOf f.type)).toArray w:=by rw[Array.mapM_eq_mapM_toList];simp only[Sem.run_map,hm,Result.andThen_ok]
   have hpl:(parts.map λ(x:Nat×Operand)=>(x.1,a.eval x.2)).toList=parts.toList.map λx=>(x.1,a.eval x.2):=by simp
   simp only[execOp,ho,Instr.build,Sem.run_bind,hz1,Result.andThen_ok,run_underlying hfs,hmm,Sem.run_pure];rw[hpl,hc1]
   rfl
  .cases hs
 .cases h
theorem b4J{o:Oper}{t:TypeId}{parts:Array (Nat×Operand)}(ho:o.op=.build t parts)(h:a5Q P G t parts st=some out):qF P G o st out:=by
 unfold a5Q at h;split at h
 .rename_i hs;have oY:=hs;split at h
  .rename_i z ps hz hps;simp only[f2M]at h;obtain⟨r,eK,rfl⟩:=h;unfold cW at hs;split at hs
   .rename_i fs hfs;refine bH λbase R μ a w hr=>?_;obtain⟨zv,hz1,hz2,hz3⟩:=b1d (R:=R) hz w;obtain⟨hl,hp⟩:=a3s hr hps;have hm:=xG w fs.toList (λf hf=>by simpa using f2Q.1 hs f hf);obtain⟨sX,hc1,hc2,hc3⟩:=c3w (R:=R) (w:=w) hfs (pl:=λi=>((fs.toList.map λf=>(f.offset,P.cellsOf f.type)).toArray)[i]?) (λi=>by simp)
     (parts.toList.map λx=>(x.1,a.eval x.2)) ps zv.cells z r (by simpa using hl) hp hz2 hz3 eK
    refine⟨.agg sX,?_,.d _ _ (.agg _ _ hc2 (λi d hi=>(hc3 i d hi).1) λi d hi=>(hc3 i d hi).2),trivial⟩;have hmm:(fs.mapM (λf=>do pure (f.offset, <- sizeOf f.type)):Sem (Array (Nat×Nat))).run P w=.ok (fs.toList.map λf=>(f.offset,P.cellsOf f.type)).toArray w:=by rw[Array.mapM_eq_mapM_toList];simp only[Sem.run_map,hm,Result.andThen_ok]
    have hpl:(parts.map λ(x:Nat×Operand)=>(x.1,a.eval x.2)).toList=parts.toList.map λx=>(x.1,a.eval x.2):=by simp
    simp only[execOp,ho,Instr.build,Sem.run_bind,hz1,Result.andThen_ok,run_underlying hfs,hmm,Sem.run_pure];rw[hpl,hc1]
    rfl
   .cases hs
  .exact c1y ho oY h
 .cases h
theorem a8x(hr:Rel P G base R μ st a w){i:Operand}{n:D}{m j:Nat}(hi:st.eval G i=.d n)(h:idx n m=some j):∃k,a.eval i=.int k j/\j<m:=by obtain⟨k,q,rfl,h0,h1,rfl,h2⟩:=b1c h;exact⟨k,by rw[hr.tX hi];congr 1;omega,h2⟩
theorem V.xH{v:Value}{es:List (List D)}(h:V R w v (.sl es)):∃ao cap,v=.slice ao es.length cap/\es.length<=cap/\(es≠[]->∃b o size,ao=some ⟨b,o,none⟩/\0<size/\(∀e∈es,e.length=size)/\
  ∀(i:Nat) (e:List D),es[i]? =some e->Run R w b (o+i*size) e):=by
 cases h with
 |emp ao cap=>exact⟨ao,cap,rfl,Nat.zero_le _,λh=>absurd rfl h⟩
 |sl b o n cap size es f h1 h2 h3 h4 h5 h6 h7=>
  subst h1;refine⟨_,cap,rfl,h2,λ_=>⟨b,o,size,rfl,h3,h4,λi e hi j d hj=>?_⟩⟩;have tT:i<es.length:=(f2O.1 hi).1;have xU:j<size:=by rw[<-h4 e (f2S hi)];exact(f2O.1 hj).1
  obtain⟨q1,q2⟩:=h5 i j tT xU;exact⟨h6 i j e d hi hj,q1,f i j,q2,h7 i j e d hi hj⟩
theorem dM{t:TypeId}(h:P.cellsOf t≠0):(P.info? t).isSome=true:=by
 cases hi:P.info? t with
 |none=>simp[Program.cellsOf,hi]at h
 |some i=>rfl
theorem b3I{o:Oper}{t:TypeId}{x i:Operand}(ho:o.op=.indexAddr t x i)(h:qX P G t x i st=some out):qF P G o st out:=by
 unfold qX at h;split at h
 .rename_i e es n hu hx hi;simp only[f3b]at h;obtain⟨j,hj,cs,pR,h⟩:=h;split at h<;>simp at h;rename_i hlen;subst h;refine bH λbase R μ a w hr=>?_;obtain⟨k,hk,xU⟩:=a8x hr hi hj;obtain⟨ao,cap,hv,b1e,dX⟩:=(hr.jI hx).xH;obtain⟨b,off,size,rfl,hs0,hs1,cD⟩:=dX (by rintro rfl;simp at pR);have hU:size=P.cellsOf e:=by rw[<-hlen,hs1 cs (f2S pR)]
  have hso:=oH (dM (P:=P) (t:=e) (by omega)) w;refine⟨.pointer (some ⟨b,off+j*size,none⟩),?_,.ep _ _ _ (cD j cs pR),trivial⟩;simp[execOp,ho,hv,hk,Instr.indexAt,run_underlying hu,asIntOf,xU,hso,kG,hU]
 .rename_i len e k off n hu hx hi;split at h
  .cases h
  .rename_i dX;simp only[f2M]at h;obtain⟨j,hj,rfl⟩:=h;refine bH λbase R μ a w hr=>?_;obtain⟨q,hq,xU⟩:=a8x hr hi hj;exact⟨.pointer (some ⟨μ k,off+j*P.cellsOf e,none⟩),by simp[execOp,ho,hr.dA hx,hq,Instr.indexAt,run_underlying hu,asIntOf,Instr.sureAddr,xU,oH (dM dX) w,kG],.ptr _ _,trivial⟩
 .rename_i len e cs n hu hx hi;split at h
  .cases h
  .rename_i dX;simp only[f2M]at h;obtain⟨j,hj,rfl⟩:=h;refine bH λbase R μ a w hr=>?_;obtain⟨q,hq,xU⟩:=a8x hr hi hj;obtain⟨b,off,he,cD⟩:=(hr.mD hx).a3r;exact⟨.pointer (some ⟨b,off+j*P.cellsOf e,none⟩),by simp[execOp,ho,he,hq,Instr.indexAt,run_underlying hu,asIntOf,Instr.sureAddr,xU,oH (dM dX) w,kG],.ep _ _ _ (cD.drop _),trivial⟩
 .cases h
theorem zC(b o:Nat)(f:Field){i:TypeInfo}(hi:P.info? f.type=some i)(h:P.cellsOf f.type≠0):(fieldPlace ⟨b,o,none⟩ f).run P w=.ok ⟨b,o+f.offset,none⟩ w:=by
 have: ¬i.size=0:=by simpa[Program.cellsOf,hi]using h
 simp[fieldPlace,sizeOf,typeInfo,hi,this,kG]
theorem b3J{o:Oper}{t:TypeId}{x:Operand}{i:Nat}(ho:o.op=.fieldAddr t x i)(h:qY P G t x i st=some out):qF P G o st out:=by
 unfold qY at h;split at h
 .rename_i off u hf;obtain⟨fs,f,h1,h2,rfl,rfl⟩:=tY hf;split at h
  .cases h
  .rename_i dX;have hi:∃i,P.info? f.type=some i:=by
    cases hi:P.info? f.type with
    |none=>simp[Program.cellsOf,hi]at dX
    |some i=>exact⟨i,rfl⟩
   obtain⟨ti,hti⟩:=hi;split at h<;>simp at h<;>subst h
   .rename_i k off hx;exact bH λbase R μ a w hr=>⟨.pointer (some ⟨μ k,off+f.offset,none⟩),by simp[execOp,ho,hr.dA hx,Instr.fieldAt,run_underlying h1,h2,Instr.sureAddr,zC (w:=w) (μ k) off f hti dX],.ptr _ _,trivial⟩
   .rename_i cs hx;refine bH λbase R μ a w hr=>?_;obtain⟨b,off,he,cD⟩:=(hr.mD hx).a3r;exact⟨.pointer (some ⟨b,off+f.offset,none⟩),by simp[execOp,ho,he,Instr.fieldAt,run_underlying h1,h2,Instr.sureAddr,zC (w:=w) b off f hti dX],.ep _ _ _ (cD.drop _),trivial⟩
 .cases h
end
end Go.VM
namespace Go.VM
open Go Go.RowKit
section
variable {P:Program} {G:GT} {st:St} {out:Out}
variable {base:cN} {R:Nat->Nat->Prop} {μ:Nat->Nat} {a:Act} {w:World}
theorem a9u(n:Nat){xs ys:Array Value}{ps qs:List D}(hxs:∀(i:Nat) (d:D),ps[i]? =some d->V R w (xs.getD i undef) d)(hys:∀(i:Nat) (d:D),qs[i]? =some d->V R w (ys.getD i undef) d)(hx:xs.size=ps.length)(hy:ys.size=qs.length):
  ∀(fs:List Field) (k:Nat) (r:Bool),(∀(i:Nat) (f:Field),fs[i]? =some f->f.name≠ "_" /\f.offset=k+i/\∃d,P.underlying f.type=some d/\pD d=true/\∀p,ps[k+i]? =some p->rL P f.type p=true)->
   k+fs.length=ps.length->xY (ps.drop k) (qs.drop k)=some r->(Op.eqFields (n+1) xs ys fs).run P w=.ok r w
 |[],k,r,_,hl,h=>by
  rw[List.drop_eq_nil_of_le (by simp at hl;omega)]at h;cases hq:qs.drop k with
  |nil=>rw[hq]at h;simp[xY]at h;subst h;simp[Op.eqFields]
  |cons c cs=>rw[hq]at h;simp[xY]at h
 |f::fs,k,r,hf,hl,h=>by
  obtain⟨hn,ho,d,hd,hs,hk⟩:=hf 0 f rfl;simp only[Nat.add_zero]at ho hk;have hkl:k<ps.length:=by simp at hl;omega
  rw[f3a hkl]at h;cases hq:qs.drop k with
  |nil=>rw[hq]at h;simp[xY]at h
  |cons c cs=>
   have hkq:k<qs.length:=by have:=congrArg List.length hq;simp at this;omega
   rw[f3a hkq]at h;simp only[xY]at h;split at h
   .rename_i x y hx1 hy1;simp at h;subst h;have v1:=hxs k ps[k] (by simp[hkl]);have v2:=hys k qs[k] (by simp[hkq]);have he:=c4S n hd hs v1 v2 hx1 (hk ps[k] (by simp[hkl]));have hp:∀(zs:Array Value),k<zs.size->(part f.type zs k).run P w=.ok (zs.getD k undef) w:=λzs hz=>by
     unfold part;simp only[Sem.run_bind,pZ hd,Result.andThen_ok];have:mS d=false:=by cases d<;>simp_all [pD,mS]
     simp[this,hz]
    have ih:=a9u n hxs hys hx hy fs (k+1) y (λi f' hi=>by
     have:=hf (i+1) f' (by simpa using hi)
     rwa[show k+(i+1)=k+1+i by omega]at this) (by simp at hl;omega) hy1
    simp only[Op.eqFields,hn,ne_eq,not_false_eq_true,if_true,Sem.run_bind,ho,hp xs (by rw[hx];exact hkl),hp ys (by rw[hy];exact hkq),Result.andThen_ok,he];cases x
    .simp
    .simp[ih]
   .cases h
theorem a5o:∀(k:Nat) (fs:List Field) (ds:List TypeDesc) (ps:List D),a1q P k fs=some ds->wO ds ps=true->
  fs.length=ps.length/\∀(i:Nat) (f:Field),fs[i]? =some f->f.name≠ "_" /\f.offset=k+i/\∃d,P.underlying f.type=some d/\pD d=true/\∀p,ps[i]? =some p->rL P f.type p=true
 |k,[],ds,ps,h,hf=>by simp[a1q]at h;subst h;cases ps<;>simp[wO]at hf;simp
 |k,f::fs,ds,ps,h,hf=>by
  simp only[a1q]at h;split at h
  .rename_i d ds' hd hds;split at h<;>simp at h;rename_i hc;subst h;cases ps with
   |nil=>simp[wO]at hf
   |cons p ps=>
    simp only[wO,f2N]at hf;obtain⟨h1,h2⟩:=a5o (k+1) fs ds' ps hds hf.2;refine⟨by simp[h1],λi g hi=>?_⟩;cases i with
    |zero=>simp at hi;subst hi;exact⟨hc.1,by omega,d,hd,hc.2.2,λp' hp'=>by simp at hp';subst hp';simp[rL,hd,hf.1]⟩
    |succ i=>simp at hi;obtain⟨q1,q2,q3⟩:=h2 i g hi;exact⟨q1,by omega,by simpa using q3⟩
  .cases h
theorem d2t{o:Oper}{op:BinOp}{t u:TypeId}{x y:Operand}(ho:o.op=.binOp op t x y u)(h:c1s P G op t x y st=some out):qF P G o st out:=by
 unfold c1s at h;split at h
 .rename_i p q hx hy;simp only[f2M]at h;obtain⟨c,hc,rfl⟩:=h;refine bH λbase R μ a w hr=>?_;have hv:∃r,(do eqGuard op t x y (a.eval x) (a.eval y);binOp op t (a.eval x) (a.eval y):Sem Value).run P w=.ok r w/\V R w r c:=by
   have vx:=hr.jI hx;have vy:=hr.jI hy;unfold c7k at hc;split at hc
   .rename_i b1 b2;obtain he1:=vx.tW;obtain he2:=vy.tW;rw[he1,he2];split at hc<;>simp at hc<;>subst hc
    .rename_i hu;exact⟨.bool (b1==b2),by simp[eqGuard,binOp,run_equal_bool w t b1 b2 hu],.bool _⟩
    .rename_i hu;exact⟨.bool !(b1==b2),by simp[eqGuard,binOp,run_equal_bool w t b1 b2 hu],.bool _⟩
   .rename_i ps qs;split at hc
    .rename_i ds hfl;obtain⟨xs,he1,hs1,e5W⟩:=vx.a1W;obtain⟨ys,he2,hs2,e5X⟩:=vy.a1W;have hv1:=λi d hi=>(e5W i d hi).2;have hv2:=λi d hi=>(e5X i d hi).2;rw[he1,he2];unfold a1r at hfl;split at hfl
     .rename_i fs hfs;have hfl:(P.eqGuardType P.depth t=false/\P.stoodInHeld t=false)/\a1q P 0 fs.toList=some ds:=by
       split at hfl
       .rename_i h;exact⟨h,hfl⟩
       .cases hfl
      obtain⟨hg1,hg2⟩:=hfl.1;by_cases jB:wO ds ps=true
      case neg=>rw[if_neg jB]at hc;cases hc
      rw[if_pos jB]at hc;have hfo:P.fieldsOf t=fs:=by simp[Program.fieldsOf,hfs]
      have cD:∀r,xY ps qs=some r->(Op.equalIn 10000 t (.agg xs) (.agg ys)).run P w=.ok r w:=λr eK=>by rw[run_equalIn_struct w 9999 t xs ys (by rw[hfo];exact hfs) hg2,hfo];obtain⟨hl,hf'⟩:=a5o 0 fs.toList ds ps hfl.2 jB;exact a9u 9998 hv1 hv2 hs1 hs2 fs.toList 0 r (λi f hi=>by simpa using hf' i f hi) (by simpa using hl) (by simpa using eK)
      have hgd:(eqGuard op t x y (.agg xs) (.agg ys)).run P w=.ok () w:=run_eqGuard_agg w op t x y xs ys hg1;split at hc<;>simp at hc<;>subst hc
      .rename_i r eK;exact⟨.bool r,by simp only[Sem.run_bind,hgd,Result.andThen_ok,run_eql_struct,cD r eK],.bool _⟩
      .rename_i r eK;exact⟨.bool !r,by simp only[Sem.run_bind,hgd,Result.andThen_ok,run_neq_struct,cD r eK],.bool _⟩
     .cases hfl
    .cases hc
   .exact c7o vx vy hc
  obtain⟨r,h1,h2⟩:=hv;refine⟨r,?_,.d _ _ h2,trivial⟩;simp only[execOp,ho];rw[Sem.run_bind,h1]
  rfl
 .cases h
theorem a5p(w:World){t e:TypeId}(hu:P.underlying t=some (.slice e))(ao:Option Addr)(n cap:Nat):(Op.equal t (.slice ao n cap) (.slice none 0 0)).run P w=.ok ao.isNone w:=by unfold Op.equal;unfold Op.maxDepth;unfold Op.equalIn;simp only[Sem.run_bind,run_underlying hu,Result.andThen_ok];cases ao<;>rfl
theorem V.d5S{v:Value}{es:List (List D)}(h:V R w v (.sl es)):∃ao n cap,v=.slice ao n cap/\(es.length≠0->ao.isNone=false):=by
 cases h with
 |emp ao cap=>exact⟨ao,0,cap,rfl,λh=>absurd rfl h⟩
 |sl b o n cap size es f=>exact⟨_,_,_,rfl,λ_=>rfl⟩
theorem b8s{o:Oper}{op:BinOp}{t u:TypeId}{x y:Operand}(ho:o.op=.binOp op t x y u)(hy:b6b y=true)(h:yX P G op t x st=some out):qF P G o st out:=by
 have hy':y=.const (.slice none 0 0):=by
  unfold b6b at hy;split at hy
  .rfl
  .cases hy
 subst hy';have cD:∀(a:Act) (w:World) (e:TypeId) (ao:Option Addr) (n cap:Nat),P.underlying t=some (.slice e)->a.eval x=.slice ao n cap->
   (op=.eql->(execOp a.eval o).run P w=.ok (.value (.bool ao.isNone)) w)/\(op=.neq->(execOp a.eval o).run P w=.ok (.value (.bool !ao.isNone)) w):=λa w e ao n cap hu hx=>by
  have hc:a.eval (.const (.slice none 0 0))=.slice none 0 0:=rfl;constructor
  .rintro rfl;simp only[execOp,ho,hx,hc];simp[eqGuard,binOp,a5p w hu]
  .rintro rfl;simp only[execOp,ho,hx,hc];simp[eqGuard,binOp,a5p w hu]
 unfold yX at h;split at h
 .rename_i e es hu hx;simp only[f2T]at h;subst h;refine bH λbase R μ a w hr=>?_;obtain⟨ao,n,cap,hv,dX⟩:=(hr.jI hx).d5S;refine⟨_,(cD a w e ao n cap hu hv).1 rfl,?_,trivial⟩;by_cases h0:es.length=0
  .rw[if_pos h0];exact .pC _
  .rw[if_neg h0,dX h0];exact .d _ _ (.bool _)
 .rename_i e es hu hx;simp only[f2T]at h;subst h;refine bH λbase R μ a w hr=>?_;obtain⟨ao,n,cap,hv,dX⟩:=(hr.jI hx).d5S;refine⟨_,(cD a w e ao n cap hu hv).2 rfl,?_,trivial⟩;by_cases h0:es.length=0
  .rw[if_pos h0];exact .pC _
  .rw[if_neg h0,dX h0];exact .d _ _ (.bool _)
 .rename_i e hu hx;simp only[f2T]at h;subst h;refine bH λbase R μ a w hr=>?_;obtain⟨ao,hv⟩:=(hr.jI hx).jM;exact⟨_,(cD a w e ao 0 0 hu hv).1 rfl,.pC _,trivial⟩
 .rename_i e hu hx;simp only[f2T]at h;subst h;refine bH λbase R μ a w hr=>?_;obtain⟨ao,hv⟩:=(hr.jI hx).jM;exact⟨_,(cD a w e ao 0 0 hu hv).2 rfl,.pC _,trivial⟩
 .cases h
theorem c7q{o:Oper}{op:BinOp}{t u:TypeId}{x y:Operand}(ho:o.op=.binOp op t x y u)(h:b0X P G op t x y st=some out):qF P G o st out:=by
 unfold b0X at h;split at h
 .exact b8s ho ‹_› h
 .exact d2t ho h
theorem c7r{src dst:TypeId}{p c:D}{v:Value}(hv:V R w v p)(h:c3p P src dst p=some c):∃r,(convert src dst v).run P w=.ok r w/\V R w r c:=by
 unfold c3p at h;split at h
 .rename_i d k k' n hs hd;simp only[f2T]at h;subst h;obtain rfl:=hv.rM;exact⟨_,by simp[convert,run_underlying hs,run_underlying hd,Conv.intToInt],.int _ _⟩
 .rename_i d s hs hd;simp only[f2T]at h;subst h;obtain rfl:=hv.mT;exact⟨_,by simp[convert,run_underlying hs,run_underlying hd],.str _⟩
 .rename_i e es hs hd;split at h
  .rename_i hu;simp only[f2M]at h;obtain⟨bs,hbs,rfl⟩:=h;unfold c4L at hu;split at hu<;>simp at hu;rename_i he;obtain⟨ao,cap,rfl,b1e,dX⟩:=hv.xH;refine⟨.string ⟨bs.toArray⟩,?_,.str _⟩;rw[run_convert_bytes_string w src dst e _ _ _ hs he hd];have b1h:∀(es:List (List D)) (bs:List UInt8),vF es=some bs->∃ns:List Int,es=ns.map (λn=>[D.int .u8 n])/\bs=ns.map λn=>UInt8.ofNat n.toNat:=by
    intro es
    induction es with
    |nil=>intro bs h;simp[vF]at h;subst h;exact⟨[],rfl,rfl⟩
    |cons c es ih=>
     intro bs h;unfold vF at h;split at h
     .rename_i heq;cases heq
     .rename_i n l heq;simp only[f2M]at h;obtain⟨bs',hb',rfl⟩:=h;cases heq;obtain⟨ns,h1,h2⟩:=ih bs' hb';exact⟨n::ns,by simp[h1],by simp[h2]⟩
     .cases h
   obtain⟨ns,he1,he2⟩:=b1h es bs hbs;cases ao with
   |none=>
    have:es=[]:=by
     cases es with
     |nil=>rfl
     |cons c l=>obtain⟨b,o,size,h,_⟩:=dX (by simp);cases h
    subst this;simp[vF]at hbs;subst hbs;simp[Conv.bytesToString]
    rfl
   |some ad=>
    have hl:(loadCells ad es.length).run P w=.ok (ns.map (Value.int .u8)).toArray w:=by
     by_cases b0l:es=[]
     .subst b0l;have:ns=[]:=by simpa using he1.symm
      subst this;simp[loadCells,loadCellsFrom]
     .obtain⟨b,o,size,ha,hs0,hs1,cD⟩:=dX b0l;cases ha;have hn:∀j,j<ns.length->w.cell? ((⟨b,o,none⟩:Addr).add j)=some (.int .u8 (ns.getD j 0)):=λj hj=>by
       have hej:es[j]? =some [D.int .u8 (ns.getD j 0)]:=by rw[he1];simp[hj]
       have hU:size=1:=by rw[<-hs1 _ (f2S hej)];rfl
       obtain⟨_,_,v,hc,hv⟩:=cD j _ hej 0 _ rfl;rw[kG];rw[hU,Nat.mul_one,Nat.add_zero]at hc;rw[hc,hv.rM]
      have hlen:es.length=(ns.map (Value.int .u8)).length:=by rw[he1];simp
      rw[hlen];exact run_loadCells_list (P:=P) w _ (ns.map (Value.int .u8)) (λj v hj=>by simp only[f2X,f2M]at hj;obtain⟨n,hn',rfl⟩:=hj;have xU:=(f2O.1 hn').1;rw[hn j xU];simp[List.getD,hn'])
    rw[run_bytesToString w ad es.length cap ns hl];have e2r:∀(ns:List Int) (s:List UInt8),ns.foldl (λ(r:ByteArray) n=>r.push (UInt8.ofNat n.toNat)) ⟨s.toArray⟩=⟨(s++ns.map λn=>UInt8.ofNat n.toNat).toArray⟩:=by
     intro ns
     induction ns with
     |nil=>intro s;simp
     |cons n ns ih=>
      intro s;have hp:(⟨s.toArray⟩:ByteArray).push (UInt8.ofNat n.toNat)=⟨(s++[UInt8.ofNat n.toNat]).toArray⟩:=by apply ByteArray.ext;simp[ByteArray.push]
      simp only[List.foldl_cons,hp,ih];simp
    have:=e2r ns [];simp only[List.nil_append]at this;rw[he2, <- this]
    rfl
  .cases h
 .rename_i e hs hd;split at h
  .rename_i hu;simp only[f2T]at h;subst h;unfold c4L at hu;split at hu<;>simp at hu;rename_i he;obtain⟨ao,rfl⟩:=hv.jM;refine⟨.string ⟨#[]⟩,?_,.str []⟩;rw[run_convert_bytes_string w src dst e _ _ _ hs he hd];cases ao with
   |none=>simp[Conv.bytesToString];rfl
   |some ad=>
    rw[run_bytesToString w ad 0 0 [] (by simp[loadCells,loadCellsFrom])]
    rfl
  .cases h
 .cases h
theorem c7s{o:Oper}{src dst:TypeId}{x:Operand}(ho:o.op=.convert src dst x)(h:b0Y P G src dst x st=some out):qF P G o st out:=by
 unfold b0Y at h;split at h
 .rename_i p hx;simp only[f2M]at h;obtain⟨c,hc,rfl⟩:=h;refine bH λbase R μ a w hr=>?_;obtain⟨r,h1,h2⟩:=c7r (hr.jI hx) hc;exact⟨r,by simp[execOp,ho,h1],.d _ _ h2,trivial⟩
 .cases h
theorem a1Y(s:List UInt8):(⟨s.toArray⟩:ByteArray).size=s.length:=by simp[ByteArray.size]
theorem sY{r:Nat}{es:Array MapEntry}{clock:Nat}(hb:w.heap[r]? =some (.map es clock)):(getObj r).run P w=.ok (.map es clock) w:=by simp[getObj,Sem.run,hb]
theorem d2v{o:Oper}{x:Operand}{t:TypeId}(ho:o.op=.call {callee:=.builtin .len,args:=#[x],argTypes:=#[t]})(h:c4M P G t x st=some out):qF P G o st out:=by
 unfold c4M at h;split at h
 .rename_i s hu hx;simp only[f2T]at h;subst h;exact bH λbase R μ a w hr=>⟨.int .i64 s.length,by simp[execOp,ho,resolve,invoke,builtin,Builtin.len_,run_underlying hu,hr.a6Z hx,goInt,a1Y],.d _ _ (.int _ _),trivial⟩
 .rename_i e es hu hx;simp only[f2T]at h;subst h;refine bH λbase R μ a w hr=>⟨.int .i64 es.length,?_,.d _ _ (.int _ _),trivial⟩;obtain⟨ao,cap,he,_⟩:=(hr.jI hx).xH;simp[execOp,ho,resolve,invoke,builtin,Builtin.len_,run_underlying hu,he,goInt]
 .rename_i e hu hx;simp only[f2T]at h;subst h;refine bH λbase R μ a w hr=>⟨.int .i64 0,?_,.d _ _ (.int _ _),trivial⟩;obtain⟨ao,he⟩:=(hr.jI hx).jM;simp[execOp,ho,resolve,invoke,builtin,Builtin.len_,run_underlying hu,he,goInt]
 .rename_i kt et k hu hx;split at h
  .rename_i es hk;simp only[f2T]at h;subst h;refine bH λbase R μ a w hr=>⟨.int .i64 es.length,?_,.d _ _ (.int _ _),trivial⟩;obtain⟨_,_,oC,clock,hh,hU,_⟩:=hr.gM k _ hk;simp[execOp,ho,resolve,invoke,builtin,Builtin.len_,run_underlying hu,hr.a5X hx,goInt,sY (P:=P) hh,hU]
  .cases h
 .cases h
def OB(x:Option Value)(c4K n j:Nat):Prop:=(x=none/\j=c4K)\/∃k,x=some (.int k (j:Int))/\j<=n
theorem kQ(hr:Rel P G base R μ st a w){x:Option Operand}{c4K n j:Nat}(h:eP G st x c4K n=some j):OB (x.map a.eval) c4K n j:=by
 unfold eP at h;split at h
 .simp at h;exact .inl ⟨rfl,h.symm⟩
 .rename_i y;split at h
  .rename_i z hz;unfold bound at h;split at h
   .rename_i k i;split at h<;>simp at h;rename_i hb;subst h;refine .inr ⟨k,?_,by omega⟩;simp only[Option.map_some,hr.tX hz];congr 2;omega
   .cases h
  .cases h
theorem run_sliceBound(k:IntKind)(j n:Nat)(h:j<=n)(c:BoundsCode):(Instr.sliceBound (.int k (j:Int)) n c).run P w=.ok j w:=by simp[Instr.sliceBound,asIntOf,h]
theorem a5Y(isSlice:Bool)(len cap l h:Nat)(lo hi:Option Value)(hlen:len<=cap)(hh:OB hi len len h)(hl:OB lo 0 h l):(Instr.sliceBounds isSlice len cap lo hi none).run P w=.ok (l,h,cap) w/\l<=h/\h<=len:=by
 have h1:h<=len:=by rcases hh with⟨_,rfl⟩|⟨k,_,h⟩<;>omega
 have h2:l<=h:=by rcases hl with⟨_,rfl⟩|⟨k,_,h⟩<;>omega
 refine⟨?_,h2,h1⟩;rcases hh with⟨rfl,rfl⟩|⟨k,rfl,hk⟩
 .rcases hl with⟨rfl,rfl⟩|⟨k',rfl,hk'⟩
  .simp[Instr.sliceBounds]
  .simp[Instr.sliceBounds,run_sliceBound (P:=P) (w:=w) k' l h hk']
 .rcases hl with⟨rfl,rfl⟩|⟨k',rfl,hk'⟩
  .simp[Instr.sliceBounds,run_sliceBound (P:=P) (w:=w) k h cap (by omega)]
  .simp[Instr.sliceBounds,run_sliceBound (P:=P) (w:=w) k h cap (by omega),run_sliceBound (P:=P) (w:=w) k' l h hk']
theorem V.sub{ao:Option Addr}{es:List (List D)}{cap:Nat}(hv:V R w (.slice ao es.length cap) (.sl es))(l h size:Nat)(hlh:l<=h)(hhl:h<=es.length)(b1e:es.length<=cap)(hU:∀e∈es,e.length=size):V R w (.slice (if cap=l then ao else ao.map (·.add (l*size))) (h-l) (cap-l)) (.sl ((es.take h).drop l)):=by
 have hlen:((es.take h).drop l).length=h-l:=by simp;omega
 by_cases hz:h-l=0
 .rw[hz];have:(es.take h).drop l=[]:=List.eq_nil_of_length_eq_zero (by rw[hlen,hz]);rw[this];exact .emp _ _
 .obtain⟨ao',d2w,he,_,dX⟩:=hv.xH;cases he;obtain⟨b,o,a0n,rfl,hs0,hs1,cD⟩:=dX (by rintro rfl;simp at hhl;omega);have tZ:a0n=size:=by
   have h0l:0<es.length:=by omega
   have hm:es[0]? =some es[0]:=by simp
   have h1:=hs1 es[0] (f2S hm);have h2:=hU es[0] (f2S hm);omega
  subst tZ;rw[if_neg (by omega)];simp only[Option.map_some,kG];have a2Y:∀(i:Nat) (e:List D),((es.take h).drop l)[i]? =some e->es[l+i]? =some e:=λi e hi=>by
   rw[f3g,List.getElem?_take]at hi;split at hi
   .exact hi
   .cases hi
  have mY:∀(i j:Nat),i<h-l->j<a0n->R b (o+l*a0n+i*a0n+j)/\∃v d,w.cell? ⟨b,o+l*a0n+i*a0n+j,none⟩=some v/\((es.take h).drop l)[i]?.bind (·[j]?)=some d/\d.one=true/\V R w v d:=λi j hi hj=>by
   have tT:l+i<es.length:=by omega
   have hei:es[l+i]? =some es[l+i]:=by simp[tT]
   have xU:j<(es[l+i]).length:=by rw[hs1 _ (f2S hei)];exact hj
   obtain⟨h1,h2,v,h3,h4⟩:=cD (l+i) es[l+i] hei j (es[l+i])[j] (by simp[xU]);have e6a:o+(l+i)*a0n+j=o+l*a0n+i*a0n+j:=by rw[Nat.add_mul];omega
   rw[e6a]at h2 h3;refine⟨h2,v,(es[l+i])[j],h3,?_,h1,h4⟩;rw[f3g,List.getElem?_take,if_pos (by omega),hei];simp[xU]
  refine .sl b (o+l*a0n) (h-l) (cap-l) a0n _ (λi j=>(w.cell? ⟨b,o+l*a0n+i*a0n+j,none⟩).getD undef) hlen.symm (by omega) hs0 (λe he=>?_) (λi j hi hj=>?_) (λi j e d he hd=>?_) (λi j e d he hd=>?_)
  .exact hU e (List.mem_of_mem_take (List.mem_of_mem_drop he))
  .obtain⟨h1,v,d,h2,_⟩:=mY i j hi hj;exact⟨h1,by rw[h2];rfl⟩
  .exact(cD _ e (a2Y i e he) j d hd).1
  .have tT:i<h-l:=by rw[<-hlen];exact(f2O.1 he).1
   have xU:j<a0n:=by rw[<-hU e (List.mem_of_mem_take (List.mem_of_mem_drop (f2S he)))];exact(f2O.1 hd).1
   obtain⟨h1,v,d',h2,h3,h4,h5⟩:=mY i j tT xU;rw[he]at h3;simp only[Option.bind_some]at h3;rw[hd]at h3;cases h3;rw[h2];exact h5
theorem b8v(s:List UInt8)(l h:Nat):(⟨s.toArray⟩:ByteArray).extract l h=⟨((s.take h).drop l).toArray⟩:=by rw[ByteArray.extract_mk];congr 2;rw[List.drop_take]
end
end Go.VM
namespace Go.VM
open Go Go.RowKit
section
variable {P:Program} {G:GT} {st:St} {out:Out}
variable {base:cN} {R:Nat->Nat->Prop} {μ:Nat->Nat} {a:Act} {w:World}
theorem uA{t e:TypeId}(hu:P.underlying t=some (.slice e))(ao:Option Addr)(len cap:Nat)(lo hi mx:Option Value):
  (Instr.sliceAt t (.slice ao len cap) lo hi mx).run P w=((Instr.sliceBounds true len cap lo hi mx).run P w).andThen λb w'=>((sizeOf e).run P w').andThen λs w''=>.ok (.slice (if b.2.2=b.1 then ao else ao.map (·.add (b.1*s))) (b.2.1-b.1) (b.2.2-b.1)) w'':=by
 simp only[Instr.sliceAt,Instr.slice,Sem.run_bind,run_underlying hu,Result.andThen_ok,Sem.run_pure]
theorem a9v(hr:Rel P G base R μ st a w)(len cap:Nat){lo hi:Option Operand}{m:Operand}(h1:lo.isNone=true)(h2:eP G st hi 1 0=some 0)(h3:eP G st (some m) 1 0=some 0):
  (Instr.sliceBounds true len cap (lo.map a.eval) (hi.map a.eval) ((some m).map a.eval)).run P w=.ok (0,0,0) w:=by
 have hh:=kQ hr h2;have hm:=kQ hr h3;have tQ:lo=none:=by cases lo<;>simp_all
 subst tQ;rcases hh with⟨_,h⟩|⟨k,hk,_⟩
 .cases h
 .rcases hm with⟨h,_⟩|⟨k',hk',_⟩
  .cases h
  .rw[hk,hk'];simp[Instr.sliceBounds,Instr.sliceBound,asIntOf]
theorem c4U{o:Oper}{t:TypeId}{x:Operand}{lo hi mx:Option Operand}(ho:o.op=.slice t x lo hi mx)(h:a5T P G t x lo hi mx st=some out):qF P G o st out:=by
 unfold a5T at h;split at h
 .rename_i s hu hx;simp only[f3b,f2M]at h;obtain⟨hh,h1,l,h2,rfl⟩:=h;refine bH λbase R μ a w hr=>?_;have hb:=a5Y (P:=P) (w:=w) false s.length s.length l hh _ _ (f3d _) (kQ hr h1) (kQ hr h2);refine⟨.string ⟨((s.take hh).drop l).toArray⟩,?_,.d _ _ (.str _),trivial⟩;simp[execOp,ho,hr.a6Z hx,run_sliceAt_string (P:=P) w t _ _ _ _ hu,Instr.slice,run_underlying hu,a1Y,hb.1,b8v]
 .rename_i e es hu hx;split at h
  .rename_i hc;simp only[f3b,f2M]at h;obtain⟨hh,h1,l,h2,rfl⟩:=h;refine bH λbase R μ a w hr=>?_;have hv:=hr.jI hx;obtain⟨ao,cap,he,b1e,_⟩:=hv.xH;obtain⟨hb,hlh,hhl⟩:=a5Y (P:=P) (w:=w) true es.length cap l hh _ _ b1e (kQ hr h1) (kQ hr h2);rw[he]at hv;refine⟨_,?_,.d _ _ (hv.sub l hh (P.cellsOf e) hlh hhl b1e (λc xA=>by simpa using f2Q.1 hc.2 c xA)),trivial⟩;simp only[execOp,ho,Sem.run_bind,he,uA hu,Option.map_none,hb,Result.andThen_ok,oH (dM hc.1) w,Sem.run_pure]
  .cases h
 .rename_i e hu hx;split at h
  .rename_i hc;simp only[f3b,f2M]at h;obtain⟨hh,h1,l,h2,rfl⟩:=h;refine bH λbase R μ a w hr=>?_;obtain⟨ao,he⟩:=(hr.jI hx).jM;obtain⟨hb,hlh,hhl⟩:=a5Y (P:=P) (w:=w) true 0 0 l hh _ _ (f3d _) (kQ hr h1) (kQ hr h2);have h0:hh=0:=by omega
   have h0':l=0:=by omega
   subst h0 h0';refine⟨.slice ao 0 0,?_,.d _ _ (.aJ _),trivial⟩;simp[execOp,ho,he,uA hu,hb,oH (dM hc) w]
  .cases h
 .rename_i e es m hu hx;split at h
  .rename_i hc;simp only[f2T]at h;subst h;refine bH λbase R μ a w hr=>?_;obtain⟨ao,cap,he,_⟩:=(hr.jI hx).xH;have hb:=a9v hr es.length cap hc.2.1 hc.2.2.1 hc.2.2.2;refine⟨.slice ao 0 0,?_,.d _ _ (.aJ _),trivial⟩;simp only[execOp,ho,Sem.run_bind,he,uA hu,hb,Result.andThen_ok,oH (dM hc.1) w,Sem.run_pure,if_true,Nat.sub_self]
  .cases h
 .rename_i e m hu hx;split at h
  .rename_i hc;simp only[f2T]at h;subst h;refine bH λbase R μ a w hr=>?_;obtain⟨ao,he⟩:=(hr.jI hx).jM;have hb:=a9v hr 0 0 hc.2.1 hc.2.2.1 hc.2.2.2;refine⟨.slice ao 0 0,?_,.d _ _ (.aJ _),trivial⟩;simp only[execOp,ho,Sem.run_bind,he,uA hu,hb,Result.andThen_ok,oH (dM hc.1) w,Sem.run_pure,if_true,Nat.sub_self]
  .cases h
 .cases h
theorem pG{d:TypeDesc}{p q:D}{u v:Value}{r:Bool}(hu:V R w u p)(hv:V R w v q)(hf:qK d p=true)(h:yW p q=some r):Instr.sameNow d u v=some r:=by
 unfold yW at h;split at h
 .obtain rfl:=hu.rM;obtain rfl:=hv.rM;split at h<;>simp at h;rename_i sW;subst sW h;cases d<;>simp[qK]at hf;simp[Instr.sameNow]
 .obtain rfl:=hu.mT;obtain rfl:=hv.mT;simp at h;subst h;cases d<;>simp[qK]at hf;simp[Instr.sameNow,c3v]
 .obtain rfl:=hu.tW;obtain rfl:=hv.tW;simp at h;subst h;cases d<;>simp[qK]at hf;simp[Instr.sameNow]
 .cases h
def sJ(R:Nat->Nat->Prop)(w:World)(l:List MapEntry)(es:List (D×D)):Prop:=l.length=es.length/\∀(i:Nat) (e:MapEntry) (k v:D),l[i]? =some e->es[i]? =some (k,v)->V R w e.key k/\V R w e.val v
theorem sJ.a3q{oC:Array MapEntry}{es:List (D×D)}(h1:oC.size=es.length)(h2:∀(i:Nat) (k v:D),es[i]? =some (k,v)->V R w ((oC.getD i default).key) k/\V R w ((oC.getD i default).val) v):sJ R w oC.toList es:=
 ⟨by simpa using h1,λi e k v he hk=>by
  have:=h2 i k v hk;have hg:oC.getD i default=e:=by
   have:oC[i]? =some e:=by simpa using he
   simp[f2P,this]
  rwa[hg]at this⟩
theorem sJ.tail{e:MapEntry}{l:List MapEntry}{x:D×D}{es:List (D×D)}(h:sJ R w (e::l) (x::es)):sJ R w l es:=
 ⟨by simpa using h.1,λi e' k v he hk=>h.2 (i+1) e' k v (by simpa using he) (by simpa using hk)⟩
theorem b1i{d:TypeDesc}{k:D}{u:Value}(hu:V R w u k)(hf:qK d k=true):∀(l:List MapEntry) (es:List (D×D)) (n:Nat) (r:Option D),sJ R w l es->findKeyD k es=some r->
  (r=none/\Instr.findNow d u l n=some none)\/∃(i:Nat) (e:MapEntry) (k' v:D),r=some v/\Instr.findNow d u l n=some (some (n+i,e.val))/\l[i]? =some e/\es[i]? =some (k',v)
 |[],[],n,r,_,h=>by simp[findKeyD]at h;subst h;exact .inl ⟨rfl,rfl⟩
 |[],_::_,_,_,he,_=>by simp[sJ]at he
 |_::_,[],_,_,he,_=>by simp[sJ]at he
 |e::l,(k',v')::es,n,r,he,h=>by
  have h0:=he.2 0 e k' v' rfl rfl;simp only[findKeyD]at h;split at h
  .rename_i hq;simp at h;subst h;exact .inr ⟨0,e,k',v',rfl,by simp[Instr.findNow,pG hu h0.1 hf hq],rfl,rfl⟩
  .rename_i hq;rcases b1i hu hf l es (n+1) r he.tail h with⟨h1,h2⟩|⟨i,e',k1,v1,h1,h2,h3,h4⟩
   .exact .inl ⟨h1,by simp[Instr.findNow,pG hu h0.1 hf hq,h2]⟩
   .exact .inr ⟨i+1,e',k1,v1,h1,by simp[Instr.findNow,pG hu h0.1 hf hq,h2];omega,by simpa using h3,by simpa using h4⟩
  .cases h
theorem a5Z{t k e:TypeId}(h:mapOf P t=some (k,e)):P.underlying t=some (.map k e)/\∃d,P.underlying k=some d/\pD d=true:=by
 unfold mapOf at h;split at h
 .rename_i k' e' hu;split at h
  .rename_i d hd;split at h<;>simp at h;rename_i hs;obtain⟨rfl,rfl⟩:=h;exact⟨hu,d,hd,hs⟩
  .cases h
 .cases h
theorem gX{k:TypeId}{d:TypeDesc}(hd:P.underlying k=some d)(hs:pD d=true)(em:Bool)(n:Nat)(v:Value):(Instr.checkKey em (n+1) k v).run P w=.ok () w:=by unfold Instr.checkKey;simp only[Sem.run_bind,run_underlying hd,Result.andThen_ok];cases d<;>simp[pD]at hs<;>rfl
theorem a1Z{k:TypeId}{d:TypeDesc}{x:D}(hd:P.underlying k=some d)(h:rL P k x=true):qK d x=true:=by simpa[rL,hd]using h
theorem oL{k:TypeId}{d:TypeDesc}(hd:P.underlying k=some d){u:Value}{l:List MapEntry}{r:Option (Nat×Value)}(h:Instr.findNow d u l 0=some r):(Instr.findKey k u l).run P w=.ok r w:=by simp[Instr.findKey,run_underlying hd,h]
theorem c1z{o:Oper}{t:TypeId}{m k:Operand}{ok:Bool}(ho:o.op=.lookup t m k ok)(h:a4B P G t m k ok st=some out):qF P G o st out:=by
 unfold a4B at h;split at h
 .rename_i kt e key kk hm hx hk;split at h
  .rename_i es z hg hz hf;simp only[f2M]at h;obtain⟨r,e2s,rfl⟩:=h;obtain⟨hu,d,hd,hs⟩:=a5Z hm;refine bH λbase R μ a w hr=>?_;obtain⟨_,_,oC,clock,hh,hU,hev⟩:=hr.gM key _ hg;have hE:=sJ.a3q hU hev;have hzv:∃zv,(zeroValue e).run P w=.ok zv w/\V R w zv z:=by
    unfold b8i at hz;cases hi:P.info? e with
    |none=>simp[hi]at hz
    |some i=>
     cases hz0:i.zero with
     |none=>simp[hi,hz0]at hz
     |some zv=>simp[hi,hz0]at hz;have ht:=b0Z (R:=R) (μ:=μ) (w:=w) zv;unfold isD at hz;split at hz<;>simp at hz;rename_i q hq;subst hz;rw[hq]at ht;exact⟨zv,by simp[zeroValue,typeInfo,hi,hz0],ht.a6W⟩
   obtain⟨zv,hz1,hz2⟩:=hzv;have fin:∀(v:Value) (b:Bool),V R w v (r.getD z)->r.isSome=b->∃x,(if ok then Value.tuple #[v,.bool b] else v)=x/\TV R μ w x (if ok then .cJ [r.getD z,.bool r.isSome] else .d (r.getD z)):=λv b hv hb=>by
    refine⟨_,rfl,?_⟩;cases ok
    .exact .d _ _ hv
    .refine .cJ _ _ rfl (λi d hi=>?_)
     match i,hi with
     |0,hi=>simp at hi;subst hi;exact hv
     |1,hi=>simp at hi;subst hi;subst hb;exact .bool _
     |n+2,hi=>simp at hi
   rcases b1i (hr.jI hk) (a1Z hd hf) oC.toList es 0 r hE e2s with⟨rfl,h1⟩|⟨i,en,k',v,rfl,h1,h2,h3⟩
   .obtain⟨x,hx1,wE⟩:=fin zv false hz2 rfl;refine⟨x,?_,wE,trivial⟩;simp[execOp,ho,Instr.lookup,run_underlying hu,hr.a5X hx,sY (P:=P) hh,gX (P:=P) (w:=w) hd hs,oL (P:=P) (w:=w) hd h1,hz1, <- hx1]
   .obtain⟨x,hx1,wE⟩:=fin en.val true (hE.2 i en k' v h2 h3).2 rfl;refine⟨x,?_,wE,trivial⟩;simp[execOp,ho,Instr.lookup,run_underlying hu,hr.a5X hx,sY (P:=P) hh,gX (P:=P) (w:=w) hd hs,oL (P:=P) (w:=w) hd h1, <- hx1]
  .cases h
 .cases h
end
end Go.VM
namespace Go.VM
open Go Go.RowKit
section
variable {P:Program} {G:GT} {st:St} {out:Out}
variable {base:cN} {R:Nat->Nat->Prop} {μ:Nat->Nat} {a:Act} {w w':World}
theorem Rel.b6j(h:Rel P G base R μ st a w){k:Nat}{o:aW}(hk:getKey k st.H=some o)(hos:w'.os=w.os)(htp:w'.tape=w.tape)(rN:w'.output=w.output)(hU:w'.heap.size=w.heap.size)(hb:∀j,j≠μ k->w'.heap[j]? =w.heap[j]?):Step base R w R w':=by obtain⟨h1,h2,_⟩:=h.gM k o hk;exact⟨⟨hos,htp,rN,by omega,λj hj=>hb j λe=>hj (e▸h1)⟩,λ_ _ h=>h,λ_ _ h h'=>absurd h h',λb off hr=>World.cell?_of_block (hb b (by rintro rfl;exact h2 off hr))⟩
theorem Rel.setObj(h:Rel P G base R μ st a w){k:Nat}{o o':aW}(hk:getKey k st.H=some o)(hos:w'.os=w.os)(htp:w'.tape=w.tape)(rN:w'.output=w.output)(hU:w'.heap.size=w.heap.size)(hb:∀j,j≠μ k->w'.heap[j]? =w.heap[j]?)(hob:gK R μ w' (μ k) o'){dP:List (TypeId×List Loc)}(a6a:∀c∈dP,∀k off,Loc.c k off∈c.2->∃o,getKey k st.H=some o)(kF:∃vs,zA P base R μ {st with H:=bU k o' st.H,own:=dP} a w' vs):
  Rel P G base R μ {st with H:=bU k o' st.H,own:=dP} a w'/\Step base R w R w':=by
 have hs:=h.b6j hk hos htp rN hU hb;have hex:∀k' o1,getKey k' (bU k o' st.H)=some o1->∃o2,getKey k' st.H=some o2:=λk' o1 h1=>by
  rw[eQ]at h1;by_cases sW:k=k'
  .subst sW;exact⟨o,hk⟩
  .rw[if_neg sW]at h1;exact⟨o1,h1⟩
 refine⟨⟨h.defers,h.size,λi v d hv hd=>(h.tmps i v d hv hd).bK hs,λk' o1 h1=>?_,λk1 k2 o1 o2 h1 h2 he=>?_,λc hc k' off hl=>?_,kF,h.tP.bK hs,λb off hr=>by rw[hU];exact h.pE b off hr,by rw[hU];exact h.base,h.pass⟩,hs⟩
 .simp only at h1;rw[eQ]at h1;by_cases sW:k=k'
  .subst sW;rw[if_pos rfl]at h1;cases h1;obtain⟨q1,q2,_⟩:=h.gM k o hk;exact⟨q1,q2,hob⟩
  .rw[if_neg sW]at h1;obtain⟨q1,q2,q3⟩:=h.gM k' o1 h1;exact⟨q1,q2,q3.bK hs (hb _ λhe=>sW (h.inj k k' o o1 hk h1 he.symm))⟩
 .obtain⟨o3,h3⟩:=hex k1 o1 h1;obtain⟨o4,h4⟩:=hex k2 o2 h2;exact h.inj k1 k2 o3 o4 h3 h4 he
 .obtain⟨o1,h1⟩:=a6a c hc k' off hl;simp only;rw[eQ];split
  .exact⟨_,rfl⟩
  .exact⟨o1,h1⟩
theorem zA.d2y(h:Rel P G base R μ st a w){k:Nat}{o o':aW}(hk:getKey k st.H=some o)(hb:∀j,j≠μ k->w'.heap[j]? =w.heap[j]?)(sI:∀off,w'.cell? ⟨μ k,off,none⟩=none):
  ∃vs,zA P base R μ {st with H:=bU k o' st.H} a w' vs:=by
 obtain⟨vs,hl,h1,xE⟩:=h.own;refine⟨vs,hl,λi c v hc hv=>?_,xE⟩;have ho:=h1 i c v hc hv;have a1t:∀k' o1,getKey k' (bU k o' st.H)=some o1->∃o2,getKey k' st.H=some o2:=λk' o1 h1=>by
  rw[eQ]at h1;by_cases sW:k=k'
  .subst sW;exact⟨o,hk⟩
  .rw[if_neg sW]at h1;exact⟨o1,h1⟩
 refine⟨λl hl u hu=>?_,ho.own.c3r (λg hg=>hb g λhe=>ho.keys k o hk (by rw[hg,he])) (λ_ _ _ h=>h),λk' o1 h1=>by obtain⟨o2,h2⟩:=a1t k' o1 h1;exact ho.keys k' o2 h2⟩;cases l with
 |t i=>exact ho.dF _ hl u hu
 |c k' off=>
  by_cases sW:k'=k
  .subst sW;simp only[bZ]at hu;rw[sI]at hu;cases hu
  .obtain⟨o1,h1'⟩:=h.dF c (f2S hc) k' off hl;refine ho.dF _ hl u ?_;rw[<-hu];exact(World.cell?_of_block (hb _ λhe=>sW (h.inj k' k o1 o h1' hk he))).symm
theorem b3K{α:Type}(z:List α)(off:Nat)(vs:List α)(h:off+vs.length<=z.length)(k:Nat):(overwrite z off vs)[k]? =if k<off then z[k]? else if k<off+vs.length then vs[k-off]? else z[k]? :=by
 have a1X:min off z.length=off:=by omega
 simp only[overwrite,List.append_assoc];by_cases h1:k<off
 .rw[if_pos h1,f2Y (by simp;omega),List.getElem?_take,if_pos h1]
 .rw[if_neg h1,f2V (by simp;omega)];simp only[List.length_take,a1X];by_cases h2:k<off+vs.length
  .rw[if_pos h2,f2Y (by omega)]
  .rw[if_neg h2,f2V (by omega),f3g];congr 1;omega
theorem b3L{α:Type}(z:List α)(off:Nat)(vs:List α)(h:off+vs.length<=z.length):(overwrite z off vs).length=z.length:=by simp only[overwrite,List.length_append,List.length_take,List.length_drop];omega
theorem a2a(z:List Value)(off:Nat)(vs:List Value)(h:off+vs.length<=z.length)(k:Nat):(z.take off++vs++z.drop (off+vs.length))[k]? =if k<off then z[k]? else if k<off+vs.length then vs[k-off]? else z[k]? :=by
 have a1X:min off z.length=off:=by omega
 simp only[List.append_assoc];by_cases h1:k<off
 .rw[if_pos h1,f2Y (by simp;omega),List.getElem?_take,if_pos h1]
 .rw[if_neg h1,f2V (by simp;omega)];simp only[List.length_take,a1X];by_cases h2:k<off+vs.length
  .rw[if_pos h2,f2Y (by omega)]
  .rw[if_neg h2,f2V (by omega),f3g];congr 1;omega
theorem setRow_os(w:World)(g:Nat)(c:Array Value):(w.setRow g c).os=w.os/\(w.setRow g c).tape=w.tape/\(w.setRow g c).output=w.output/\(w.setRow g c).heap.size=w.heap.size:=⟨rfl,rfl,rfl,by simp[World.setRow]⟩
theorem c7t{v:Value}{d:DV}{ys:List DV}(h:TV R μ w v d)(hc:sT d=some ys)(h1:d.cell=true):ys.length=1/\v.cells=#[v]:=by
 cases h with
 |d v x h=>simp only[sT,f2T]at hc;subst hc;obtain⟨q1,q2⟩:=h.c4P (by simpa[DV.cell]using h1);exact⟨by rw[q2];rfl,q1⟩
 |undef v=>cases hc
 |it k=>cases hc
 |cJ vs ds h1 h2=>cases hc
 |ptr k off=>cases hc;exact⟨rfl,rfl⟩
 |ep b o cs h=>cases hc;exact⟨rfl,rfl⟩
 |mp k=>cases hc;exact⟨rfl,rfl⟩
 |fn f=>cases hc;exact⟨rfl,rfl⟩
 |pC b=>cases hc;exact⟨rfl,rfl⟩
 |wL T=>cases hc
 |clo f vs cs h1 h2=>cases hc;exact⟨rfl,rfl⟩
 |ag vs cs q1 q2 q3 q4=>cases h1
theorem a4C{o:Oper}{t:TypeId}{ad x:Operand}(ho:o.op=.store t ad x)(h:qE P G t ad x st=some out):qF P G o st out:=by
 unfold qE at h;split at h
 .rename_i k off ys ha hx;split at h
  .rename_i cs hk;split at h
   .rename_i hc;obtain⟨hlen,dX,hle⟩:=hc;simp only[f2T]at h;subst h;intro base R μ a w hr;obtain⟨hbk,hnR,cur,T,hh,hU,c7u,b0l⟩:=hr.gM k _ hk;have hv:=hr.eval x;obtain⟨pF,hvc⟩:=a1v hv hx;have gO:∀u∈(a.eval x).cells.toList,u.oneCell'=true:=λu hu=>by
     obtain⟨i,hi⟩:=f3e hu;have tT:i<ys.length:=by rw[<-pF];simpa using (f2O.1 hi).1
     obtain⟨_,_,h2⟩:=hvc i ys[i] (by simp[tT]);have:(a.eval x).cells.getD i undef=u:=by
      have:(a.eval x).cells[i]? =some u:=by simpa using hi
      simp[f2P,this]
     rw[this]at h2;exact h2
    have mM:=run_storeCells_at P (μ k) off T (a.eval x).cells.toList 0 cur w hh (by rw[hU];simp[pF];omega) gO;simp only[Nat.add_zero]at mM;have cD:(execOp a.eval o).run P w=.ok .skip (w.setRow (μ k) (cur.toList.take off++(a.eval x).cells.toList++cur.toList.drop (off+(a.eval x).cells.toList.length)).toArray):=by
     have hnn: ¬((a.eval x).cells.size≠P.cellsOf t):=by rw[pF,hlen];simp
     simp only[execOp,ho,Sem.run_bind,hr.dA ha,Instr.storeAt,Instr.sureAddr,storeVar,Sem.run_pure,Result.andThen_ok,oH (dM dX) w,if_neg hnn,mM]
    generalize hw':w.setRow (μ k) (cur.toList.take off++(a.eval x).cells.toList++cur.toList.drop (off+(a.eval x).cells.toList.length)).toArray=w' at cD;have aI:μ k<w.heap.size:=(f2W.1 hh).1;have b4K:w'.heap[μ k]? =some (.cells (cur.toList.take off++(a.eval x).cells.toList++cur.toList.drop (off+(a.eval x).cells.toList.length)).toArray T (0,0)):=by rw[<-hw'];exact setRow_heap w (μ k) cur _ T _ hh
    have zD:∀j,j≠μ k->w'.heap[j]? =w.heap[j]? :=λj hj=>by rw[<-hw'];exact setRow_other w (μ k) j _ hj
    obtain⟨e1,e2,e3,e4⟩:=setRow_os w (μ k) (cur.toList.take off++(a.eval x).cells.toList++cur.toList.drop (off+(a.eval x).cells.toList.length)).toArray;rw[hw']at e1 e2 e3 e4;have c7v:=hr.b6j hk e1 e2 e3 e4 zD;have mO:(a.eval x).cells.toList.length=ys.length:=by simpa using pF
    have jB:off+(a.eval x).cells.toList.length<=cur.toList.length:=by rw[mO];simp[hU];omega
    have a2Y:∀i,w'.cell? ⟨μ k,i,none⟩=if i<off then cur[i]? else if i<off+ys.length then(a.eval x).cells[i-off]? else cur[i]? :=λi=>by rw[cell_of_row w' _ _ _ T (0,0) b4K,List.getElem?_toArray,a2a _ _ _ jB,mO];simp
    have hob:gK R μ w' (μ k) (.cells (overwrite cs off ys)):=by
     refine⟨_,T,b4K,?_,λi d hi=>?_,b0l.overwrite (a6X hx) off⟩
     .rw[b3L _ _ _ hle, <- hU];simp only[List.size_toArray,List.length_append,List.length_take,List.length_drop];rw[mO];simp;omega
     .rw[b3K _ _ _ hle]at hi;rw[f2P,List.getElem?_toArray,a2a _ _ _ jB,mO];by_cases h1:i<off
      .rw[if_pos h1]at hi|-;have:=c7u i d hi;rw[f2P]at this;exact⟨this.1,by simpa using this.2.bK c7v⟩
      .rw[if_neg h1]at hi|-;by_cases h2:i<off+ys.length
       .rw[if_pos h2]at hi|-;have:=hvc _ d hi;rw[f2P]at this;exact⟨this.1,by simpa using this.2.1.bK c7v⟩
       .rw[if_neg h2]at hi|-;have:=c7u i d hi;rw[f2P]at this;exact⟨this.1,by simpa using this.2.bK c7v⟩
    have c7w:∀k' o1,getKey k' (bU k (.cells (overwrite cs off ys)) st.H)=some o1->∃o2,getKey k' st.H=some o2:=λk' o1 h1=>by
     rw[eQ]at h1;by_cases sW:k=k'
     .subst sW;exact⟨_,hk⟩
     .rw[if_neg sW]at h1;exact⟨o1,h1⟩
    have d5U:(∀c∈(if (st.eval G x).cell then dO (.c k off) (qV (st.eval G x) (sU x)) st.own else dropKey k st.own),∀k' a3t,Loc.c k' a3t∈c.2->∃o,getKey k' st.H=some o)/\
      ∃vs,zA P base R μ {st with H:=bU k (.cells (overwrite cs off ys)) st.H,own:=if (st.eval G x).cell then dO (.c k off) (qV (st.eval G x) (sU x)) st.own else dropKey k st.own} a w' vs:=by
     obtain⟨vs,d7X⟩:=hr.own;have hsl:∀e u,oK P base R w e u->(∀k o,getKey k st.H=some o->bF u≠some (μ k))->oK P base R w' e u:=λe u hu hm=>hu.c3r (λg hg=>zD g λhe=>hm k _ hk (by rw[hg,he])) (λ_ _ _ h=>h)
     by_cases hy:(st.eval G x).cell=true
     .simp only[hy,if_true];have hyc:ys.length=1/\(a.eval x).cells=#[a.eval x]:=c7t hv hx hy;have c4V:qV (st.eval G x) (sU x)=.no\/∃s,qV (st.eval G x) (sU x)=.al (.t s):=by
       unfold qV;split
       .cases x with
        |tmp s=>exact .inr ⟨s,rfl⟩
        |_=>exact .inl rfl
       .exact .inl rfl
      refine⟨λc hc k' a3t hl=>?_,?_⟩
      .obtain⟨i,hi⟩:=f3e hc;rcases c4V with ha'|⟨s,ha'⟩
       .rw[ha']at hi;obtain⟨c',xA,_,hm⟩:=oZ hi;exact hr.dF c' (f2S xA) k' a3t ((hm _).1 hl).1
       .rw[ha']at hi;simp only[dO,reduceCtorEq,if_false]at hi;obtain⟨c',xA,_,hm⟩:=tV hi;rcases hm _ hl with hx'|⟨hx',_⟩
        .obtain⟨c0,xZ,_,hm0⟩:=oZ xA;exact hr.dF c0 (f2S xZ) k' a3t ((hm0 _).1 hx').1
        .cases hx';exact⟨_,hk⟩
      .refine zA.act (a':=a) (w':=w') (dst:=.c k off) (v:=a.eval x) (act:=qV (st.eval G x) (sU x)) hr.own rfl c7w (λc hc l hl e6f=>?_) (λu hu=>?_) hsl (hr.qV x)
       .cases l with
        |t i=>rfl
        |c k' a3t=>
         obtain⟨o1,h1⟩:=hr.dF c hc k' a3t hl;by_cases sW:k'=k
         .subst sW;have c4W:a3t≠off:=λhe=>e6f (by rw[he]);simp only[bZ];rw[a2Y,cell_of_row w _ _ cur T (0,0) hh];by_cases q1:a3t<off
          .rw[if_pos q1]
          .rw[if_neg q1,if_neg (by rw[hyc.1];omega)]
         .exact World.cell?_of_block (zD _ λhe=>sW (hr.inj k' k o1 _ h1 hk he))
       .simp only[bZ]at hu;rw[a2Y,if_neg (by omega),if_pos (by rw[hyc.1];omega),hyc.2]at hu;simp at hu;exact hu.symm
     .simp only[hy];refine⟨λc hc k' a3t hl=>?_,vs,by simpa[dropKey]using d7X.len,λi c u hc hu=>?_,d7X.apart⟩
      .obtain⟨i,hi⟩:=f3e hc;obtain⟨c',xA,_,hm⟩:=wP hi;exact hr.dF c' (f2S xA) k' a3t ((hm _).1 hl).1
      .obtain⟨c',xA,he,hm⟩:=wP hc;have sV:=d7X.one i c' u xA hu;refine⟨λl hl u' hu'=>?_,by rw[he];exact hsl _ u sV.own sV.keys,λk' o1 h1=>by obtain⟨o2,h2⟩:=c7w k' o1 h1;exact sV.keys k' o2 h2⟩;have hx':=(hm l).1 hl;refine sV.dF l hx'.1 u' ?_;cases l with
       |t i=>exact hu'
       |c k' a3t=>
        have sW:k'≠k:=by simpa[Loc.wN]using hx'.2
        obtain⟨o1,h1⟩:=hr.dF c' (f2S xA) k' a3t hx'.1;rw[<-hu'];exact(World.cell?_of_block (zD _ λhe=>sW (hr.inj k' k o1 _ h1 hk he))).symm
    obtain⟨jU,hs⟩:=hr.setObj hk e1 e2 e3 e4 zD hob d5U.1 d5U.2;exact⟨Go.undef,w',R,μ,.inr ⟨cD,rfl⟩,jU,.cJ #[] [] rfl (by simp),trivial,hs⟩
   .cases h
  .cases h
 .cases h
end
end Go.VM
namespace Go.VM
open Go Go.RowKit
section
variable {P:Program} {G:GT} {st:St} {out:Out}
variable {base:cN} {R:Nat->Nat->Prop} {μ:Nat->Nat} {a:Act} {w w':World}
theorem b0H{α:Type}{c:Prop}[Decidable c]{x y:α}(h:(if c then some x else none)=some y):c/\x=y:=by
 split at h
 .rename_i hc;exact⟨hc,by simpa using h⟩
 .cases h
theorem a3u{o:Oper}{d:Nat}{cs:List DV}{e:TypeId}(_hd:o.dst=some d)(h:∀base R μ a w,Rel P G base R μ st a w->∃vs:Array Value,(execOp a.eval o).run P w=.ok (.value (.pointer (some ⟨w.heap.size,0,none⟩))) (w.alloc (.cells vs e))/\vs.size=cs.length/\
  ∀(i:Nat) (x:DV),cs[i]? =some x->x.cell=true/\TV R μ w (vs.getD i undef) x)(hd':d<100000)(hm:∀x∈cs,mentions d x=false)(b0l:a1U e cs):qF P G o st ⟨.ptr d 0,.no,eG st d (.cells cs)⟩:=by
 intro base R μ a w hr;obtain⟨vs,h1,h2,h3⟩:=h base R μ a w hr;have hs:=Step.alloc (base:=base) R w (.cells vs e) hr.base hr.pE;obtain⟨jU,mM⟩:=hr.newObj d hd' (.cells cs) (.cells vs e) ⟨vs,e,heap_alloc_new w _,h2,λi x hi=>⟨(h3 i x hi).1,((h3 i x hi).2.bK hs).d5P (key:=d) (λk hk=>by simp[hk]) (hm x (f2S hi))⟩,b0l⟩;refine⟨_,_,R,_,.inl h1,jU,?_,trivial,mM⟩;have:=TV.ptr (R:=R) (μ:=λk=>if k=d then w.heap.size else μ k) (w:=w.alloc (.cells vs e)) d 0;simpa using this
theorem c1B{cs:List DV}(h:b0V cs≠ .cells cs):∃T,cs=[.wL T,.d .aJ]/\b0V cs=.bld T false []:=by
 unfold b0V at h|-;split at h
 .exact⟨_,rfl,rfl⟩
 .exact absurd rfl h
theorem c1C{t T:TypeId}{v:Value}(h:a0k t v=.wL T):v=.pointer none/\T=t:=by
 unfold a0k at h;split at h
 .cases h
 .split at h
  .rename_i hn;cases h;exact⟨b4I hn,rfl⟩
  .cases h
theorem c1D{t:TypeId}{v:Value}(h:a0k t v=.d .aJ):v=.slice none 0 0:=by
 unfold a0k at h;split at h
 .rename_i x hx;cases h;unfold wM at hx;split at hx<;>simp at hx
  rfl
 .split at h<;>cases h
theorem c4X{o:Oper}{d:Nat}{cs:List DV}{e:TypeId}{z:Value}(hd:o.dst=some d)(hd':d<100000)(ho:o.op=.alloc e)(hz1:(P.info? e).bind (·.zero)=some z)(hz2:z.cells.toList.map (a0k e)=cs)(hzo: ¬b0V cs=.cells cs):
  qF P G o st ⟨.ptr d 0,.no,eG st d (b0V cs)⟩:=by
 obtain⟨T,pR,hT⟩:=c1B hzo;rw[hT];rw[pR]at hz2;obtain⟨v0,v1,hzz⟩:∃v0 v1,z.cells=#[v0,v1]:=by
  have hl:=congrArg List.length hz2
  match hq:z.cells,hl with
  |⟨[p,q]⟩,_=>exact⟨p,q,rfl⟩
 rw[hzz]at hz2;simp only[List.map_cons,List.map_nil,List.cons.injEq,and_true]at hz2;obtain⟨rfl,rfl⟩:=c1C hz2.1;have h1:=c1D hz2.2;subst h1;intro base R μ a w hr;have hs:=Step.alloc (base:=base) R w (.cells #[.pointer none,.slice none 0 0] T) hr.base hr.pE;obtain⟨jU,mM⟩:=hr.newObj d hd' (.bld T false []) (.cells #[.pointer none,.slice none 0 0] T) ⟨_,_,_,heap_alloc_new w _,λ_=>⟨rfl,rfl⟩,rfl,.emp _ _,.inl rfl⟩;refine⟨.pointer (some ⟨w.heap.size,0,none⟩),_,R,_,.inl ?_,jU,?_,trivial,mM⟩
 .obtain⟨i',hi1,hi2⟩:=f3b.1 hz1;simp[execOp,ho,Instr.alloc,zeroValue,typeInfo,hi1,hi2,newVar,newRow,hzz]
 .have:=TV.ptr (R:=R) (μ:=λk=>if k=d then w.heap.size else μ k) (w:=w.alloc (.cells #[.pointer none,.slice none 0 0] T)) d 0;simpa using this
theorem b4L{o:Oper}{e:TypeId}(ho:o.op=.alloc e)(h:a8s P o.dst e st=some out):qF P G o st out:=by
 unfold a8s at h;split at h
 .rename_i d cs hd hz;obtain⟨hd',h⟩:=b0H h;subst h;refine a3u (e:=e) hd (λbase R μ a w hr=>?_) hd' (λx hx=>by obtain⟨y,_,rfl⟩:=List.mem_map.1 hx;rfl) (λT' hx=>by obtain⟨y,_,he⟩:=List.mem_map.1 hx;cases he);obtain⟨zv,h1,h2,h3⟩:=b1d (R:=R) hz w;refine⟨zv.cells,by simp[execOp,ho,Instr.alloc,h1,newVar,newRow],by simp[h2],λi x hi=>?_⟩;rw[f2X]at hi;obtain⟨y,hy,rfl⟩:=f2M.1 hi;exact⟨(h3 i y hy).1,.d _ _ (h3 i y hy).2⟩
 .rename_i d hd hz;split at h
  .rename_i cs hc;obtain⟨hd',h⟩:=b0H h;subst h;have mY:∀v:Value,(a0k e v).cell=true/\mentions d (a0k e v)=false:=λv=>by
    unfold a0k;split
    .rename_i x hx;exact⟨(vG (R:=λ_ _=>True) (w:=default) hx).2,rfl⟩
    .split<;>exact⟨rfl,rfl⟩
   unfold b8g at hc;obtain⟨z,hz1,hz2⟩:=f2M.1 hc;by_cases hzo:b0V cs=.cells cs
   case neg=>exact c4X hd hd' ho hz1 hz2 hzo
   rw[hzo];refine a3u (e:=e) hd (λbase R μ a w hr=>?_) hd' (λx hx=>by rw[<-hz2]at hx;obtain⟨y,_,rfl⟩:=List.mem_map.1 hx;exact(mY y).2) (λT' hx=>by
    rw[<-hz2]at hx;obtain⟨y,_,he⟩:=List.mem_map.1 hx;unfold a0k at he;split at he
    .cases he
    .split at he
     .cases he;rfl
     .cases he)
   refine⟨z.cells,?_,by rw[<-hz2];simp,λi x hi=>?_⟩
   .obtain⟨i',hi1,hi2⟩:=f3b.1 hz1;simp[execOp,ho,Instr.alloc,zeroValue,typeInfo,hi1,hi2,newVar,newRow]
   .rw[<-hz2,f2X]at hi;obtain⟨y,hy,rfl⟩:=f2M.1 hi;refine⟨(mY y).1,?_⟩;have:z.cells.getD i undef=y:=by
     have:z.cells[i]? =some y:=by simpa using hy
     simp[f2P,this]
    rw[this];unfold a0k;split
    .rename_i u hu;exact .d _ _ (vG hu).1
    .split
     .rename_i hn;rw[b4I hn];exact .wL _
     .exact .undef _
  .cases h
 .cases h
theorem d2A{o:Oper}{e:TypeId}{x:Operand}(ho:o.op=.box e x)(h:d2n G o.dst x st=some out):qF P G o st out:=by
 unfold d2n at h;split at h
 .rename_i d cs hd hx;split at h
  .rename_i hm;simp only[f2T]at h;subst h;simp only[f2N,decide_eq_true_eq]at hm;obtain⟨hd',hm⟩:=hm;refine a3u (e:=e) hd (λbase R μ a w hr=>?_) hd' (λx hx=>by have:=f2Q.1 hm x hx;simpa using this) (a1U.b8j (a6X hx));obtain⟨h1,h2⟩:=a1v (hr.eval x) hx;exact⟨(a.eval x).cells,by simp[execOp,ho,Instr.box,newVar,newRow],h1,λi c hi=>⟨(h2 i c hi).1,(h2 i c hi).2.1⟩⟩
  .cases h
 .cases h
theorem b8w{o:Oper}{t:TypeId}{r:Option Operand}(ho:o.op=.makeMap t r)(h:a6U o.dst r st=some out):qF P G o st out:=by
 unfold a6U at h;split at h
 .rename_i d hd;obtain⟨hd',h⟩:=b0H h;subst h;intro base R μ a w hr;obtain⟨jU,mM⟩:=hr.newObj d hd' (.map []) (.map #[] 0) ⟨#[],0,heap_alloc_new w _,rfl,by simp⟩;refine⟨.map (some w.heap.size),_,R,_,.inl (by simp[execOp,ho,Instr.makeMap]),jU,?_,trivial,mM⟩;have:=TV.mp (R:=R) (μ:=λk=>if k=d then w.heap.size else μ k) (w:=w.alloc (.map #[] 0)) d;simpa using this
 .cases h
theorem c4Y{o:Oper}{t:TypeId}{x:Operand}(ho:o.op=.range t x)(h:b6c P G o.dst t x st=some out):qF P G o st out:=by
 unfold b6c at h;split at h
 .rename_i d s hd hu hx;obtain⟨hd',h⟩:=b0H h;subst h;intro base R μ a w hr;obtain⟨jU,mM⟩:=hr.newObj d hd' (.iter s 0) (.stringIter ⟨s.toArray⟩ 0) (heap_alloc_new w _);refine⟨.pointer (some ⟨w.heap.size,0,none⟩),_,R,_,.inl (by simp[execOp,ho,Instr.range,run_underlying hu,hr.a6Z hx]),jU,?_,trivial,mM⟩;have:=TV.it (R:=R) (μ:=λk=>if k=d then w.heap.size else μ k) (w:=w.alloc (.stringIter ⟨s.toArray⟩ 0)) d;simpa using this
 .cases h
def pH(w:World)(b:Nat)(o:Obj):World:={w with heap:=w.heap.setIfInBounds b o}
theorem a9w{b:Nat}{o o':Obj}(h:w.heap[b]? =some o'):(pH w b o).heap[b]? =some o:=by have aI:b<w.heap.size:=(f2W.1 h).1;simp[pH,aI]
theorem b6k{b j:Nat}(o:Obj)(h:j≠b):(pH w b o).heap[j]? =w.heap[j]? :=by simp[pH,Ne.symm h]
theorem Rel.pH(h:Rel P G base R μ st a w){k:Nat}{o o':aW}{ob old:Obj}(hk:getKey k st.H=some o)(hold:w.heap[μ k]? =some old)(hnc:∀c t f,ob≠ .cells c t f)(hob:∀w',Step base R w R w'->w'.heap[μ k]? =some ob->gK R μ w' (μ k) o'):
  Rel P G base R μ {st with H:=bU k o' st.H} a (pH w (μ k) ob)/\Step base R w R (Go.VM.pH w (μ k) ob):=by
 have hU:(Go.VM.pH w (μ k) ob).heap.size=w.heap.size:=by simp[Go.VM.pH]
 have hb:∀j,j≠μ k->(Go.VM.pH w (μ k) ob).heap[j]? =w.heap[j]? :=λj hj=>b6k ob hj;have hs:=h.b6j (w':=Go.VM.pH w (μ k) ob) hk rfl rfl rfl hU hb;refine h.setObj (w':=Go.VM.pH w (μ k) ob) hk rfl rfl rfl hU hb (hob _ hs (a9w hold)) h.dF (zA.d2y h hk hb λoff=>?_);simp only[World.cell?,a9w (o:=ob) hold];cases ob<;>first|rfl|exact absurd rfl (hnc _ _ _)
theorem zE{b:Nat}{old ob:Obj}(h:w.heap[b]? =some old)(hnc:∀c t f,old≠ .cells c t f):(Go.setObj b ob).run P w=.ok () (pH w b ob):=by cases old<;>first|exact absurd rfl (hnc _ _ _)|simp[Go.setObj,Sem.run,h,pH]
theorem b1k{b:Nat}{old:Obj}(h:w.heap[b]? =some old)(hnc:∀c t f,old≠ .cells c t f):(Go.getObj b).run P w=.ok old w:=by
 simp only[Go.getObj,Sem.run,h]
 try (cases old<;>first|rfl|exact absurd rfl (hnc _ _ _))
theorem c7x{o:Oper}{x:Operand}{b:Bool}(ho:o.op=.next x b)(h:c3q G x b st=some out):qF P G o st out:=by
 unfold c3q at h;split at h
 .rename_i k hx;split at h
  .rename_i s pos hk;split at h
   .rename_i aI;simp only[f2T]at h;subst h;intro base R μ a w hr;obtain⟨_,_,hh⟩:=hr.gM k _ hk
    change w.heap[μ k]? =_ at hh
    obtain⟨jU,mM⟩:=hr.pH (ob:=.stringIter ⟨s.toArray⟩ (pos+(Utf8.decode ⟨s.toArray⟩ pos).2)) (o':=.iter s (pos+(Utf8.decode ⟨s.toArray⟩ pos).2)) hk hh (by simp) (λw' _ h=>h);refine⟨.tuple #[.bool true,.int .i64 pos,.int .i32 (Utf8.decode ⟨s.toArray⟩ pos).1],_,R,μ,.inl ?_,jU,?_,trivial,mM⟩
    .simp[execOp,ho,hr.c7m hx,Instr.next,b1k (P:=P) hh (by simp),a1Y,aI,zE (P:=P) hh (by simp),goInt]
    .refine .cJ _ _ rfl (λi d hi=>?_)
     match i,hi with
     |0,hi=>simp at hi;subst hi;exact .bool _
     |1,hi=>simp at hi;subst hi;exact .int _ _
     |2,hi=>simp at hi;subst hi;exact .int _ _
     |n+3,hi=>simp at hi
   .rename_i aI;simp only[f2T]at h;subst h;refine bH λbase R μ a w hr=>?_;obtain⟨_,_,hh⟩:=hr.gM k _ hk
    change w.heap[μ k]? =_ at hh
    refine⟨.tuple #[.bool false],?_,?_,trivial⟩
    .simp[execOp,ho,hr.c7m hx,Instr.next,b1k (P:=P) hh (by simp),a1Y,aI]
    .refine .cJ _ _ rfl (λi d hi=>?_)
     match i,hi with
     |0,hi=>simp at hi;subst hi;exact .bool _
     |n+1,hi=>simp at hi
  .cases h
 .cases h
theorem b8x{p q:D}{u v:Value}(hu:V R w u p)(hv:V R w v q)(h:yW p q=some true)(n:Nat):Instr.sameBits n v u=true:=by
 unfold yW at h;split at h
 .obtain rfl:=hu.rM;obtain rfl:=hv.rM;split at h<;>simp at h;rename_i sW;subst sW h;cases n<;>simp[Instr.sameBits]
 .obtain rfl:=hu.mT;obtain rfl:=hv.mT;simp at h;subst h;cases n<;>simp[Instr.sameBits,c3v]
 .obtain rfl:=hu.tW;obtain rfl:=hv.tW;simp at h;subst h;cases n<;>simp[Instr.sameBits]
 .cases h
theorem b1l{d:TypeDesc}{k x:D}{u v:Value}(hu:V R w u k)(hx:V R w v x)(hf:qK d k=true):∀(l:List MapEntry) (es es':List (D×D)) (n:Nat),sJ R w l es->a4x k x es=some es'->
  (Instr.findNow d u l n=some none/\∀born,sJ R w (l++[⟨u,v,born⟩]) es')\/
  ∃(i:Nat) (e:MapEntry),Instr.findNow d u l n=some (some (n+i,e.val))/\l[i]? =some e/\Instr.sameBits 10000 e.key u=true/\sJ R w (l.set i {e with key:=u,val:=v}) es'
 |[],[],es',n,_,h=>by
  simp[a4x]at h;subst h;refine .inl ⟨rfl,λborn=>⟨rfl,λi e k' v' he hk=>?_⟩⟩
  match i,he,hk with
  |0,he,hk=>simp at he hk;obtain⟨rfl,rfl⟩:=hk;subst he;exact⟨hu,hx⟩
  |i+1,he,hk=>simp at he
 |[],_::_,_,_,he,_=>by simp[sJ]at he
 |_::_,[],_,_,he,_=>by simp[sJ]at he
 |e::l,(k',v')::es,es',n,he,h=>by
  have h0:=he.2 0 e k' v' rfl rfl;simp only[a4x]at h;split at h
  .rename_i hq;simp at h;subst h;refine .inr ⟨0,e,by simp[Instr.findNow,pG hu h0.1 hf hq],rfl,b8x hu h0.1 hq _,?_⟩;refine⟨by simpa using he.1,λi e' k1 v1 h1 h2=>?_⟩
   match i,h1,h2 with
   |0,h1,h2=>simp at h1 h2;obtain⟨rfl,rfl⟩:=h2;subst h1;exact⟨hu,hx⟩
   |i+1,h1,h2=>exact he.2 (i+1) e' k1 v1 (by simpa using h1) (by simpa using h2)
  .rename_i hq;split at h<;>simp at h;rename_i r' eK;subst h;have cons:∀ {l':List MapEntry} {r:List (D×D)},sJ R w l' r->sJ R w (e::l') ((k',v')::r):=λ{l' r} hE=>⟨by simp[hE.1],λi e' k1 v1 h1 h2=>by
    match i,h1,h2 with
    |0,h1,h2=>simp at h1 h2;obtain⟨rfl,rfl⟩:=h2;subst h1;exact h0
    |i+1,h1,h2=>exact hE.2 i e' k1 v1 (by simpa using h1) (by simpa using h2)⟩
   rcases b1l hu hx hf l es r' (n+1) he.tail eK with⟨h1,h2⟩|⟨i,e',h1,h2,h3,h4⟩
   .exact .inl ⟨by simp[Instr.findNow,pG hu h0.1 hf hq,h1],λborn=>by simpa using cons (h2 born)⟩
   .exact .inr ⟨i+1,e',by simp[Instr.findNow,pG hu h0.1 hf hq,h1];omega,by simpa using h2,h3,by simpa using cons h4⟩
  .cases h
theorem gK.b0I{b:Nat}{oC:Array MapEntry}{clock:Nat}{es:List (D×D)}(hb:w.heap[b]? =some (.map oC clock))(h:sJ R w oC.toList es):gK R μ w b (.map es):=
 ⟨oC,clock,hb,by simpa using h.1,λi k v hi=>by
  have tT:i<oC.toList.length:=by rw[h.1];exact(f2O.1 hi).1
  have he:oC.toList[i]? =some (oC.toList[i]):=f2R tT;have:=h.2 i _ k v he hi;have hg:oC.getD i default=oC.toList[i]:=by
   have h3:oC[i]? =some (oC.toList[i]):=by rw[<-Array.getElem?_toList];exact he
   rw[f2P,h3];rfl
  rw[hg];exact this⟩
theorem sJ.bK(hs:Step base R w R w'){l:List MapEntry}{es:List (D×D)}(h:sJ R w l es):sJ R w' l es:=⟨h.1,λi e k v h1 h2=>⟨(h.2 i e k v h1 h2).1.bK hs,(h.2 i e k v h1 h2).2.bK hs⟩⟩
theorem b3M{o:Oper}{t:TypeId}{m k x:Operand}(ho:o.op=.mapUpdate t m k x)(h:yY P G t m k x st=some out):qF P G o st out:=by
 unfold yY at h;split at h
 .rename_i kt et key kk xx hm hmx hk hx;split at h
  .rename_i es hg hf;simp only[f2M]at h;obtain⟨es',c7z,rfl⟩:=h;obtain⟨hu,d,hd,hs⟩:=a5Z hm;intro base R μ a w hr;obtain⟨_,_,oC,clock,hh,hU,hev⟩:=hr.gM key _ hg;have hE:=sJ.a3q hU hev;rcases b1l (hr.jI hk) (hr.jI hx) (a1Z hd hf) oC.toList es es' 0 hE c7z with⟨h1,h2⟩|⟨i,e,h1,h2,h3,h4⟩
   .obtain⟨jU,mM⟩:=hr.pH (ob:=.map (oC.push ⟨a.eval k,a.eval x,clock⟩) (clock+1)) (o':=.map es') hg hh (by simp)
     (λw' oY hb=>gK.b0I hb ((by simpa using h2 clock:sJ R w (oC.push ⟨a.eval k,a.eval x,clock⟩).toList es').bK oY))
    refine⟨Go.undef,_,R,μ,.inr ⟨?_,rfl⟩,jU,.cJ #[] [] rfl (by simp),trivial,mM⟩;simp[execOp,ho,Instr.mapUpdate,run_underlying hu,hr.a5X hmx,sY (P:=P) hh,gX (P:=P) (w:=w) hd hs,oL (P:=P) (w:=w) hd h1,zE (P:=P) hh (by simp)]
   .have tT:i<oC.size:=by simpa using (f2O.1 h2).1
    have hei:oC[i]? =some e:=by simpa using h2
    have e6g:(oC.modify i λe=>{e with key:=a.eval k,val:=a.eval x}).toList=oC.toList.set i {e with key:=a.eval k,val:=a.eval x}:=by
     apply List.ext_getElem?;intro j;rw[Array.getElem?_toList,Array.getElem?_modify,List.getElem?_set];by_cases hij:i=j
     .subst hij;have:oC[i]=e:=by simpa[tT]using hei
      simp[tT,this]
     .simp[hij]
    obtain⟨jU,mM⟩:=hr.pH (ob:=.map (oC.modify i λe=>{e with key:=a.eval k,val:=a.eval x}) clock) (o':=.map es') hg hh (by simp)
     (λw' oY hb=>gK.b0I hb ((by rw[e6g];exact h4:sJ R w (oC.modify i λe=>{e with key:=a.eval k,val:=a.eval x}).toList es').bK oY))
    refine⟨Go.undef,_,R,μ,.inr ⟨?_,rfl⟩,jU,.cJ #[] [] rfl (by simp),trivial,mM⟩;have hkt:(Instr.keyThatStays e.key (a.eval k)).run P w=.ok (a.eval k) w:=by simp[Instr.keyThatStays,h3]
    simp only[Nat.zero_add]at h1;simp[execOp,ho,Instr.mapUpdate,run_underlying hu,hr.a5X hmx,sY (P:=P) hh,gX (P:=P) (w:=w) hd hs,oL (P:=P) (w:=w) hd h1,hei,hkt,zE (P:=P) hh (by simp)]
  .cases h
 .cases h
theorem b1m{d:TypeDesc}{k:D}{u:Value}(hu:V R w u k)(hf:qK d k=true):∀(l:List MapEntry) (es es':List (D×D)) (n:Nat),sJ R w l es->a4y k es=some es'->
  (Instr.findNow d u l n=some none/\sJ R w l es')\/∃(i:Nat) (e:MapEntry),Instr.findNow d u l n=some (some (n+i,e.val))/\i<l.length/\sJ R w (l.eraseIdx i) es'
 |[],[],es',n,he,h=>by simp[a4y]at h;subst h;exact .inl ⟨rfl,he⟩
 |[],_::_,_,_,he,_=>by simp[sJ]at he
 |_::_,[],_,_,he,_=>by simp[sJ]at he
 |e::l,(k',v')::es,es',n,he,h=>by
  have h0:=he.2 0 e k' v' rfl rfl;simp only[a4y]at h;split at h
  .rename_i hq;simp at h;subst h;exact .inr ⟨0,e,by simp[Instr.findNow,pG hu h0.1 hf hq],by simp,he.tail⟩
  .rename_i hq;split at h<;>simp at h;rename_i r' eK;subst h;have cons:∀ {l':List MapEntry} {r:List (D×D)},sJ R w l' r->sJ R w (e::l') ((k',v')::r):=λ{l' r} hE=>⟨by simp[hE.1],λi e' k1 v1 h1 h2=>by
    match i,h1,h2 with
    |0,h1,h2=>simp at h1 h2;obtain⟨rfl,rfl⟩:=h2;subst h1;exact h0
    |i+1,h1,h2=>exact hE.2 i e' k1 v1 (by simpa using h1) (by simpa using h2)⟩
   rcases b1m hu hf l es r' (n+1) he.tail eK with⟨h1,h2⟩|⟨i,e',h1,h2,h4⟩
   .exact .inl ⟨by simp[Instr.findNow,pG hu h0.1 hf hq,h1],cons h2⟩
   .exact .inr ⟨i+1,e',by simp[Instr.findNow,pG hu h0.1 hf hq,h1];omega,by simpa using h2,by simpa using cons h4⟩
  .cases h
theorem c1E{o:Oper}{t:TypeId}{ts:Array TypeId}{m k:Operand}(ho:o.op=.call {callee:=.builtin .delete,args:=#[m,k],argTypes:=ts})(ht:ts[0]? =some t)(h:b0G P G t m k st=some out):qF P G o st out:=by
 unfold b0G at h;split at h
 .rename_i kt et key kk hm hmx hk;split at h
  .rename_i es hg hf;simp only[f2M]at h;obtain⟨es',c7z,rfl⟩:=h;obtain⟨hu,d,hd,hs⟩:=a5Z hm;intro base R μ a w hr;obtain⟨_,_,oC,clock,hh,hU,hev⟩:=hr.gM key _ hg;have hE:=sJ.a3q hU hev;rcases b1m (hr.jI hk) (a1Z hd hf) oC.toList es es' 0 hE c7z with⟨h1,h2⟩|⟨i,e,h1,h2,h4⟩
   .obtain⟨jU,mM⟩:=hr.pH (ob:=.map oC clock) (o':=.map es') hg hh (by simp) (λw' oY hb=>gK.b0I hb (h2.bK oY));refine⟨.tuple #[],_,R,μ,.inl ?_,jU,.cJ #[] [] rfl (by simp),trivial,mM⟩;simp[execOp,ho,resolve,invoke,builtin,Builtin.delete_,ht,run_underlying hu,hr.a5X hmx,sY (P:=P) hh,gX (P:=P) (w:=w) hd hs,oL (P:=P) (w:=w) hd h1,zE (P:=P) hh (by simp)]
   .have tT:i<oC.size:=by simpa using h2
    obtain⟨jU,mM⟩:=hr.pH (ob:=.map (oC.eraseIdxIfInBounds i) clock) (o':=.map es') hg hh (by simp) (λw' oY hb=>gK.b0I hb ((by simpa[Array.eraseIdxIfInBounds,tT]using h4:sJ R w (oC.eraseIdxIfInBounds i).toList es').bK oY));refine⟨.tuple #[],_,R,μ,.inl ?_,jU,.cJ #[] [] rfl (by simp),trivial,mM⟩;simp only[Nat.zero_add]at h1;simp[execOp,ho,resolve,invoke,builtin,Builtin.delete_,ht,run_underlying hu,hr.a5X hmx,sY (P:=P) hh,gX (P:=P) (w:=w) hd hs,oL (P:=P) (w:=w) hd h1,zE (P:=P) hh (by simp)]
  .cases h
 .cases h
end
end Go.VM
namespace Go.VM
open Go Go.RowKit
section
variable {P:Program} {G:GT} {st:St} {out:Out}
variable {base:cN} {R R':Nat->Nat->Prop} {μ:Nat->Nat} {a:Act} {w w':World}
theorem b8y(s:Nat):∀(ps:List (Nat×Value)) (k:Nat) (cs:Array Value),(∀(i:Nat) (p:Nat×Value),ps[i]? =some p->p.1=k+i/\p.2.cells.size=s)->(k+ps.length)*s<=cs.size->
  ∃sX,Instr.fill (λi=>some (i*s,s)) cs ps=some sX/\sX.size=cs.size/\(∀n,n<k*s->sX[n]? =cs[n]?)/\∀(i j:Nat) (p:Nat×Value),ps[i]? =some p->j<s->sX[(k+i)*s+j]? =p.2.cells[j]?
 |[],k,cs,_,_=>⟨cs,rfl,rfl,λ_ _=>rfl,by simp⟩
 |p::ps,k,cs,hp,hl=>by
  obtain⟨h1,h2⟩:=hp 0 p rfl;simp only[Nat.add_zero]at h1;have hk:k*s+s<=cs.size:=by have:(k+1)*s<=(k+(p::ps).length)*s:=Nat.mul_le_mul_right _ (by simp only[List.length_cons];omega);rw[Nat.add_mul,Nat.one_mul]at this;omega
  have c7A:(decide (p.2.cells.size≠s)||decide (p.1*s+p.2.cells.size>cs.size))=false:=by rw[h1,h2];simp;omega
  have b8q:Instr.fill (λi=>some (i*s,s)) cs (p::ps)=Instr.fill (λi=>some (i*s,s)) ((p.2.cells.toList.zipIdx 0).foldl (λcs (x:Value×Nat)=>cs.setIfInBounds (p.1*s+x.2) x.1) cs) ps:=by obtain⟨i,v⟩:=p;simp only[Instr.fill,c7A,Bool.false_eq_true,if_false];congr 1;rw[<-Array.foldl_toList,Array.toList_zipIdx]
  have a2Y:∀n,((p.2.cells.toList.zipIdx 0).foldl (λcs (x:Value×Nat)=>cs.setIfInBounds (p.1*s+x.2) x.1) cs)[n]? =if k*s<=n/\n<k*s+s/\n<cs.size then p.2.cells[n-k*s]? else cs[n]? :=λn=>by rw[wD,h1];simp[h2]
  obtain⟨sX,q1,q2,q3,q4⟩:=b8y s ps (k+1) ((p.2.cells.toList.zipIdx 0).foldl (λcs (x:Value×Nat)=>cs.setIfInBounds (p.1*s+x.2) x.1) cs) (λi p' hi=>by have:=hp (i+1) p' (by simpa using hi);exact⟨by omega,this.2⟩) (by rw[fold_size];simp at hl;rwa[show k+1+ps.length=k+(ps.length+1) by omega])
  refine⟨sX,by rw[b8q];exact q1,by rw[q2,fold_size],λn hn=>?_,λi j p' hi hj=>?_⟩
  .rw[q3 n (by rw[Nat.add_mul];omega),a2Y,if_neg (by omega)]
  .cases i with
   |zero=>simp at hi;subst hi;rw[Nat.add_zero,q3 _ (by rw[Nat.add_mul];omega),a2Y,if_pos ⟨by omega,by omega,by omega⟩];congr 1;omega
   |succ i=>
    have:=q4 i j p' (by simpa using hi) hj
    rwa[show k+1+i=k+(i+1) by omega]at this
theorem Rel.newRow(h:Rel P G base R μ st a w){w1:World}(hw1:w1=w\/w1=w.drew){e:TypeId}{cs:Array Value}{es:List (List D)}{n cap:Nat}(hU:cs.size=cap*P.cellsOf e)(hs:0<P.cellsOf e)(hn:n=es.length)(b1e:n<=cap)(d7Y:cap<=maxLen)(hlen:∀c∈es,c.length=P.cellsOf e)(pR:∀(i j:Nat) (c:List D) (d:D),es[i]? =some c->c[j]? =some d->d.one=true/\∃v,cs[i*P.cellsOf e+j]? =some v/\V R w v d):
  Rel P G base (λb o=>R b o\/(b=w.heap.size/\o<n*P.cellsOf e)) μ st a (w1.alloc (.cells cs e))/\
  Step base R w (λb o=>R b o\/(b=w.heap.size/\o<n*P.cellsOf e)) (w1.alloc (.cells cs e))/\
  V (λb o=>R b o\/(b=w.heap.size/\o<n*P.cellsOf e)) (w1.alloc (.cells cs e)) (.slice (some ⟨w.heap.size,0,none⟩) n cap) (.sl es)/\
  a3n P base (λb o=>R b o\/(b=w.heap.size/\o<n*P.cellsOf e)) μ st a (w1.alloc (.cells cs e)) (.slice (some ⟨w.heap.size,0,none⟩) n cap) (.fresh e):=by
 have b4K:w1.heap=w.heap:=by rcases hw1 with rfl|rfl<;>rfl
 have hos:w1.os=w.os/\w1.tape=w.tape/\w1.output=w.output:=by rcases hw1 with rfl|rfl<;>exact⟨rfl,rfl,rfl⟩
 have b3N:(w1.alloc (.cells cs e)).heap[w.heap.size]? =some (.cells cs e (0,0)):=by rw[<-b4K];exact heap_alloc_new w1 _
 have hold:∀k,k<w.heap.size->(w1.alloc (.cells cs e)).heap[k]? =w.heap[k]? :=λk hk=>by rw[<-b4K]at hk|-;exact Below.heap_alloc w1 _ k hk
 have tZ:(w1.alloc (.cells cs e)).heap.size=w.heap.size+1:=by simp[b4K]
 have mM:Step base R w (λb o=>R b o\/(b=w.heap.size/\o<n*P.cellsOf e)) (w1.alloc (.cells cs e)):=
  ⟨⟨hos.1,hos.2.1,hos.2.2,by omega,λk hk=>hold k (Nat.lt_of_not_le λhx=>hk (h.base k hx))⟩,λ_ _ h=>.inl h,λb o hr hn=>by
   rcases hr with hr|⟨rfl,_⟩
   .exact absurd hr hn
   .exact h.base _ (f3d _),λb o hr=>World.cell?_of_block (hold b (h.pE b o hr))⟩
 have jU:=h.step mM hold (λb o hr hn=>by rcases hr with hr|⟨rfl,_⟩;exact absurd hr hn;exact f3d _) (λb o hr=>by
  rw[tZ];rcases hr with hr|⟨rfl,_⟩
  .have:=h.pE b o hr;omega
  .omega)
 refine⟨jU,mM,?_,?_,?_,?_⟩
 .by_cases h0:n=0
  .have:es=[]:=List.eq_nil_of_length_eq_zero (by omega);rw[h0,this];exact .emp _ _
  .have mY:∀(i j:Nat) (c:List D) (d:D),es[i]? =some c->c[j]? =some d->∃v,(w1.alloc (.cells cs e)).cell? ⟨w.heap.size,0+i*P.cellsOf e+j,none⟩=some v/\V R w v d:=λi j c d hi hj=>by obtain⟨_,v,h2,h3⟩:=pR i j c d hi hj;exact⟨v,by rw[Nat.zero_add,cell_of_row _ _ _ cs e (0,0) b3N];exact h2,h3⟩
   refine .sl w.heap.size 0 n cap (P.cellsOf e) es (λi j=>((w1.alloc (.cells cs e)).cell? ⟨w.heap.size,0+i*P.cellsOf e+j,none⟩).getD undef) hn b1e hs hlen (λi j hi hj=>⟨.inr ⟨rfl,?_⟩,?_⟩) (λi j c d hi hj=>(pR i j c d hi hj).1) (λi j c d hi hj=>?_)
   .have:(i+1)*P.cellsOf e<=n*P.cellsOf e:=Nat.mul_le_mul_right _ (by omega);rw[Nat.add_mul]at this;omega
   .have tT:i<es.length:=by omega
    have hei:es[i]? =some es[i]:=f2R tT;have xU:j<(es[i]).length:=by rw[hlen _ (f2S hei)];exact hj
    obtain⟨v,hv,_⟩:=mY i j es[i] (es[i])[j] hei (f2R xU);rw[hv];rfl
   .obtain⟨v,hv,hvd⟩:=mY i j c d hi hj;rw[hv];exact hvd.bK mM
 .refine .inr ⟨w.heap.size,n,cap,cs,rfl,h.base _ (f3d _),b3N,b1e,d7Y,hU,λoff ho hr=>?_⟩;rcases hr with hr|⟨_,hr⟩
  .have:=h.pE _ _ hr;omega
  .omega
 .intro k o hk hsp;obtain⟨_,_,h3⟩:=h.gM k o hk;have:=h3.lt;simp only[bF]at hsp;split at hsp<;>simp at hsp;omega
 .obtain⟨vs,pF⟩:=h.own;refine⟨vs,pF.step h hold (λb o hb hr=>by rcases hr with hr|⟨rfl,_⟩;exact hr;omega),λv' yA=>⟨λg hg hg'=>?_,λg hg hg'=>?_⟩⟩
  .have aI:=pF.lt yA hg';simp only[bF]at hg;split at hg<;>simp at hg;omega
  .have aI:=pF.lt yA hg;simp only[bF]at hg';split at hg'<;>simp at hg';omega
theorem wQ{e:TypeId}(h:eY P e=true):∃i z,P.info? e=some i/\i.size=P.cellsOf e/\i.bytes=P.bytesOf e/\0<P.cellsOf e/\i.zero=some z/\z.cells.size=P.cellsOf e:=by
 unfold eY at h;split at h
 .rename_i i hi;have h1:i.size=P.cellsOf e:=by simp[Program.cellsOf,hi]
  have h2:i.bytes=P.bytesOf e:=by simp[Program.bytesOf,hi]
  simp only[f2N,decide_eq_true_eq]at h;cases hz:i.zero with
  |none=>simp[hz]at h
  |some z=>simp[hz]at h;exact⟨i,z,hi,h1,h2,by omega,hz,by omega⟩
 .cases h
theorem a2b{t e:TypeId}(h:eJ P t=some e):P.underlying t=some (.slice e):=by
 unfold eJ at h;split at h
 .simp at h;subst h;assumption
 .cases h
theorem b1n{o:Oper}{t:TypeId}{len:Nat}{parts:Array (Nat×Operand)}(ho:o.op=.buildSlice t len parts)(h:qW P G t len parts st=some out):qF P G o st out:=by
 unfold qW at h;split at h
 .rename_i e ps he hps;split at h
  .rename_i hc;simp only[f2N,decide_eq_true_eq,beq_iff_eq]at hc;obtain⟨⟨⟨rK,c4Z⟩,cY⟩,e9F⟩:=hc;simp only[f2T]at h;subst h;obtain⟨i,z,hi,tZ,a6c,a0V,hz,hzs⟩:=wQ rK;have hu:=a2b he;intro base R μ a w hr;obtain⟨hl,hp⟩:=a3s hr hps;have hpl:ps.length=len:=by have:=congrArg List.length c4Z;simpa using this
   have c7B:∀q∈ps,q.2.cells.length=P.cellsOf e:=λq hq=>by simpa using f2Q.1 cY q hq
   have a2Y:∀(i:Nat) (p:Nat×Value),(parts.toList.map λx=>(x.1,a.eval x.2))[i]? =some p->∃q,ps[i]? =some q/\p.1=i/\V R w p.2 q.2:=λi p hpi=>by
    have tT:i<ps.length:=by rw[<-hl];have:=(f2O.1 hpi).1;simpa using this
    have hq:ps[i]? =some ps[i]:=f2R tT;obtain⟨h1,h2⟩:=hp i p ps[i] hpi hq;refine⟨ps[i],hq,?_,h2⟩;have h3:(ps.map (·.1))[i]? =(List.range len)[i]? :=by rw[c4Z]
    rw[f2X,hq,List.getElem?_range (by omega)]at h3;have h4:ps[i].1=i:=by simpa using h3
    omega
   obtain⟨sX,q1,q2,_,q4⟩:=b8y (P.cellsOf e) (parts.toList.map λx=>(x.1,a.eval x.2)) 0 ((Array.range (len*P.cellsOf e)).map λi=>(if len*P.cellsOf e=0 then(#[]:Array Value) else z.cells)[i%(if len*P.cellsOf e=0 then(#[]:Array Value) else z.cells).size]!)
    (λi p hpi=>by obtain⟨q,hq,h1,h2⟩:=a2Y i p hpi;exact⟨by omega,by rw[h2.cells.1,c7B q (f2S hq)]⟩) (by simp[hl,hpl])
   have c7C:sX.size=len*P.cellsOf e:=by rw[q2];simp
   have hN:=hr.newRow (w1:=w) (.inl rfl) (e:=e) (cs:=sX) (es:=ps.map λp=>p.2.cells) (n:=len) (cap:=len) c7C a0V (by simp[hpl]) (f3d _)
    (by unfold maxLen;have:len*1<=len*P.cellsOf e:=Nat.mul_le_mul_left _ a0V;omega) (λc hc=>by simp only[List.mem_map]at hc;obtain⟨q,hq,rfl⟩:=hc;exact c7B q hq)
    (λi j c d hi hj=>by
     simp only[f2X,f2M]at hi;obtain⟨q,hq,rfl⟩:=hi;have tT:i<parts.toList.length:=by rw[hl];exact(f2O.1 hq).1
     have hpi:(parts.toList.map λx=>(x.1,a.eval x.2))[i]? =some ((parts.toList[i]).1,a.eval (parts.toList[i]).2):=by rw[f2X,f2R tT];rfl
     obtain⟨_,hv⟩:=hp i _ q hpi hq;obtain⟨v1,v2⟩:=hv.cells;have xU:j<q.2.cells.length:=(f2O.1 hj).1;obtain⟨h1,h2⟩:=v2 j d hj;have:=q4 i j _ hpi (by rw[<-c7B q (f2S hq)];exact xU);rw[Nat.zero_add]at this;refine⟨h1,_,?_,h2⟩;rw[this];have hjs:j<(a.eval (parts.toList[i]).2).cells.size:=by rw[v1];exact xU
     rw[f2P,f3f hjs];rfl)
   obtain⟨n1,n2,n3,n4⟩:=hN;refine⟨_,_,_,μ,.inl ?_,n1,.d _ _ n3,n4,n2⟩;have e2w: ¬(len*P.cellsOf e>2 ^ 24):=by omega
   have e2x:(parts.map λ(x:Nat×Operand)=>(x.1,a.eval x.2)).toList=parts.toList.map λx=>(x.1,a.eval x.2):=by simp
   have hso:=oH (P:=P) (t:=e) (by rw[hi];rfl) w;by_cases h0:len*P.cellsOf e=0
   .simp only[h0,if_true]at q1;simp only[execOp,ho,Instr.buildSlice,Sem.run_bind,run_underlying hu,Result.andThen_ok,hso,h0,gt_iff_lt,Nat.not_lt_zero,if_false,if_true,Sem.run_pure,e2x,q1,newRow]
    rfl
   .simp only[h0,if_false]at q1;simp only[execOp,ho,Instr.buildSlice,Sem.run_bind,run_underlying hu,Result.andThen_ok,hso,if_neg e2w,h0,if_false,Sem.run_pure,zeroValue,typeInfo,hi,hz,e2x,q1,newRow,run_program]
    rfl
  .cases h
 .cases h
end
end Go.VM
namespace Go.VM
open Go Go.RowKit
section
variable {P:Program} {G:GT} {st:St} {out:Out}
variable {base:cN} {R R':Nat->Nat->Prop} {μ:Nat->Nat} {a:Act} {w w':World}
theorem a7b{b o size:Nat}{ys:List (List D)}(hlen:∀e∈ys,e.length=size)(cD:∀(i:Nat) (e:List D),ys[i]? =some e->Run R w b (o+i*size) e):
  ∃news:List Value,news.length=ys.length*size/\(∀(j:Nat) (u:Value),news[j]? =some u->w.cell? ((⟨b,o,none⟩:Addr).add j)=some u)/\(∀u∈news,u.oneCell'=true)/\
   ∀(i j:Nat) (c:List D) (d:D),ys[i]? =some c->c[j]? =some d->d.one=true/\∃v,news[i*size+j]? =some v/\V R w v d:=by
 have mY:∀n,n<ys.length*size->∃v d,w.cell? ⟨b,o+n,none⟩=some v/\d.one=true/\V R w v d/\∃c,ys[n/size]? =some c/\c[n%size]? =some d:=λn hn=>by
  have hs:0<size:=by
   rcases Nat.eq_zero_or_pos size with h|h
   .subst h;simp at hn
   .exact h
  have hi:n/size<ys.length:=by rw[Nat.div_lt_iff_lt_mul hs];exact hn
  have hei:ys[n/size]? =some ys[n/size]:=f2R hi;have hj:n%size<(ys[n/size]).length:=by rw[hlen _ (f2S hei)];exact Nat.mod_lt _ hs
  have hd:=f2R hj;obtain⟨h1,_,v,h3,h4⟩:=cD _ _ hei _ _ hd;have heq:o+n/size*size+n%size=o+n:=by have:=Nat.div_add_mod n size;rw[Nat.mul_comm]at this;omega
  rw[heq]at h3;exact⟨v,_,h3,h1,h4,_,hei,hd⟩
 refine⟨(List.range (ys.length*size)).map λn=>(w.cell? ⟨b,o+n,none⟩).getD undef,by simp,λj u hj=>?_,λu hu=>?_,λi j c d hi hj=>?_⟩
 .simp only[f2X,f2M]at hj;obtain⟨n,hn,rfl⟩:=hj;have aI:j<ys.length*size:=by simpa using (f2O.1 hn).1
  rw[List.getElem?_range aI]at hn;cases hn;obtain⟨v,d,h1,_⟩:=mY j aI;rw[kG,h1];rfl
 .simp only[List.mem_map,List.mem_range]at hu;obtain⟨n,hn,rfl⟩:=hu;obtain⟨v,d,h1,h2,h3,_⟩:=mY n hn;rw[h1];exact h3.a6V h2
 .have tT:i<ys.length:=(f2O.1 hi).1;have xU:j<size:=by rw[<-hlen c (f2S hi)];exact(f2O.1 hj).1
  have aI:i*size+j<ys.length*size:=by have:(i+1)*size<=ys.length*size:=Nat.mul_le_mul_right _ tT;rw[Nat.add_mul]at this;omega
  obtain⟨h1,_,v,h3,h4⟩:=cD i c hi j d hj;refine⟨h1,v,?_,h4⟩;rw[f2X,List.getElem?_range aI];simp only[Option.map_some];rw[show o+(i*size+j)=o+i*size+j by omega,h3];rfl
theorem b4M(hr:Rel P G base R μ st a w){x:Operand}{ys:List (List D)}(h:d2o (st.eval G x)=some ys):∃ao cap,a.eval x=.slice ao ys.length cap/\
  (ys≠[]->∃b o size,ao=some ⟨b,o,none⟩/\0<size/\(∀e∈ys,e.length=size)/\∀(i:Nat) (e:List D),ys[i]? =some e->Run R w b (o+i*size) e):=by
 unfold d2o at h;split at h
 .rename_i es hx;simp at h;subst h;obtain⟨ao,cap,h1,_,h3⟩:=(hr.jI hx).xH;exact⟨ao,cap,h1,h3⟩
 .rename_i hx;simp at h;subst h;obtain⟨ao,h1⟩:=(hr.jI hx).jM;exact⟨ao,0,h1,λh=>absurd rfl h⟩
 .cases h
theorem a7c{l:Loc}:∀ {own:List (TypeId×List Loc)} {e:TypeId} {dP:List (TypeId×List Loc)},eV l own=some (e,dP)->∃pre c post,own=pre++c::post/\dP=pre++post/\c.1=e/\l∈c.2
 |[],e,dP,h=>by simp[eV]at h
 |c::r,e,dP,h=>by
  simp only[eV]at h;split at h
  .rename_i hc;simp at h;exact⟨[],c,r,rfl,h.2.symm,h.1,by simpa using hc⟩
  .simp only[f2M]at h;obtain⟨⟨e',r'⟩,hr,he⟩:=h;simp at he;obtain⟨pre,c',post,h1,h2,h3,h4⟩:=a7c hr;exact⟨c::pre,c',post,by simp[h1],by rw[<-he.2,h2];rfl,h3.trans he.1,h4⟩
theorem Rel.eV(h:Rel P G base R μ st a w){l:Loc}{e:TypeId}{dP:List (TypeId×List Loc)}(ht:Go.VM.eV l st.own=some (e,dP)):
  Rel P G base R μ {st with own:=dP} a w/\∃v vs,(∀u,bZ a w μ l=some u->u=v)/\oK P base R w e v/\(∀k o,getKey k st.H=some o->bF v≠some (μ k))/\zA P base R μ {st with own:=dP} a w vs/\∀v'∈vs,a2E v v'/\a2E v' v:=by
 obtain⟨pre,c,post,h1,rfl,h3,h4⟩:=a7c ht;obtain⟨vs,pF⟩:=h.own;have hpl:pre.length<vs.length:=by rw[pF.len,h1];simp
 have c1F:vs=vs.take pre.length++vs[pre.length]::vs.drop (pre.length+1):=by rw[<-f3a hpl,List.take_append_drop]
 have hc:=pF.one pre.length c vs[pre.length] (by rw[h1];simp) (f2R hpl);have xE:=pF.apart;rw[c1F,List.pairwise_append,List.pairwise_cons]at xE;have hO:zA P base R μ {st with own:=pre++post} a w (vs.take pre.length++vs.drop (pre.length+1)):=by
  refine⟨?_,λi c' v xA hv=>?_,?_⟩
  .have:=pF.len;rw[h1]at this;simp at this|-;omega
  .by_cases hi:i<pre.length
   .refine(λq=>⟨q.dF,q.own,q.keys⟩:a1V P base R μ st a w c' v->_) (pF.one i c' v ?_ ?_)
    .rw[h1,f2Y hi];simpa[f2Y hi]using xA
    .rw[f2Y (by simp;omega),List.getElem?_take]at hv;rw[if_pos hi]at hv;exact hv
   .refine(λq=>⟨q.dF,q.own,q.keys⟩:a1V P base R μ st a w c' v->_) (pF.one (i+1) c' v ?_ ?_)
    .rw[h1,f2V (by omega),show i+1-pre.length=(i-pre.length)+1 by omega,List.getElem?_cons_succ];simpa[f2V (Nat.le_of_not_lt hi)]using xA
    .have a1X:min pre.length vs.length=pre.length:=by omega
     rw[f2V (by simp;omega),f3g]at hv;simp only[List.length_take,a1X]at hv
     rwa[show pre.length+1+(i-pre.length)=i+1 by omega]at hv
  .rw[List.pairwise_append];exact⟨xE.1,xE.2.1.2,λx hx y hy=>xE.2.2 x hx y (.tail _ hy)⟩
 refine⟨⟨h.defers,h.size,h.tmps,h.gM,h.inj,λc' xA k off hl=>h.dF c' (by rw[h1];simp at xA|-;rcases xA with q|q<;>simp[q]) k off hl,⟨_,hO⟩,h.tP,h.pE,h.base,h.pass⟩,vs[pre.length],_,λu hu=>hc.dF l h4 u hu,by rw[<-h3];exact hc.own,hc.keys,hO,λv' yA=>?_⟩;simp only[List.mem_append]at yA;rcases yA with yA|yA
 .have:=xE.2.2 v' yA vs[pre.length] (.head _);exact⟨λg hg hg'=>this g hg' hg,this⟩
 .have:=xE.2.1.1 v' yA;exact⟨this,λg hg hg'=>this g hg' hg⟩
theorem Rel.c3z(h:Rel P G base R μ st a w){g n m s:Nat}{e:TypeId}{cur cur':Array Value}(hgk:∀k o,getKey k st.H=some o->μ k≠g){vs:List Value}(pF:zA P base R μ st a w vs)(hgv:∀v∈vs,bF v≠some g)(hb:base g)(hg:w.heap[g]? =some (.cells cur e (0,0)))(hR:∀off,n*s<=off-> ¬R g off)(c7u:∀off,off<n*s->cur'[off]? =cur[off]?):
  Rel P G base (λb o=>R b o\/(b=g/\o<(n+m)*s)) μ st a (w.setRow g cur')/\Step base R w (λb o=>R b o\/(b=g/\o<(n+m)*s)) (w.setRow g cur')/\
  zA P base (λb o=>R b o\/(b=g/\o<(n+m)*s)) μ st a (w.setRow g cur') vs:=by
 have zD:∀j,j≠g->(w.setRow g cur').heap[j]? =w.heap[j]? :=λj hj=>setRow_other w g j _ hj;have b3N:(w.setRow g cur').heap[g]? =some (.cells cur' e (0,0)):=setRow_heap w g cur _ e _ hg;have e6j:g<w.heap.size:=(f2W.1 hg).1;have mM:Step base R w (λb o=>R b o\/(b=g/\o<(n+m)*s)) (w.setRow g cur'):=
  ⟨⟨rfl,rfl,rfl,by simp[World.setRow],λk hk=>zD k λe=>hk (e▸hb)⟩,λ_ _ h=>.inl h,λb o hr hn=>by
   rcases hr with hr|⟨rfl,_⟩
   .exact absurd hr hn
   .exact hb,λb o hr=>by
   by_cases hbg:b=g
   .subst hbg;have aI:o<n*s:=Nat.lt_of_not_le λhle=>hR o hle hr;rw[cell_of_row _ _ _ cur' e (0,0) b3N,cell_of_row _ _ _ cur e (0,0) hg,c7u o aI]
   .exact World.cell?_of_block (zD b hbg)⟩
 have hO:zA P base (λb o=>R b o\/(b=g/\o<(n+m)*s)) μ st a (w.setRow g cur') vs:=by
  refine⟨pF.len,λi c v hc hv=>?_,pF.apart⟩;have ho:=pF.one i c v hc hv;have dX:=hgv v (f2S hv);refine⟨λl hl u hu=>ho.dF l hl u ?_,ho.own.c3r (λg' hg'=>zD g' (by rintro rfl;exact dX hg')) (λg' off hg' hr=>?_),ho.keys⟩
  .cases l with
   |t i=>exact hu
   |c k off=>obtain⟨o,hk⟩:=h.dF c (f2S hc) k off hl;rw[<-hu];exact(World.cell?_of_block (zD _ (hgk k o hk))).symm
  .rcases hr with hr|⟨rfl,_⟩
   .exact hr
   .exact absurd hg' dX
 refine⟨⟨h.defers,h.size,λi v d hv hd=>(h.tmps i v d hv hd).bK mM,λk o hk=>?_,h.inj,h.dF,⟨vs,hO⟩,h.tP.bK mM,λb o hr=>?_,by have:=h.base;simpa[World.setRow]using this,h.pass⟩,mM,hO⟩
 .obtain⟨q1,q2,q3⟩:=h.gM k o hk;refine⟨q1,λoff hr=>?_,q3.bK mM (zD _ (hgk k o hk))⟩;rcases hr with hr|⟨he,_⟩
  .exact q2 off hr
  .exact hgk k o hk he
 .have:b<w.heap.size:=by
   rcases hr with hr|⟨rfl,_⟩
   .exact h.pE b o hr
   .exact e6j
  simpa[World.setRow]using this
theorem a6d(hr:Rel P G base R μ st a w){e:TypeId}{z:Value}(hs:0<P.cellsOf e)(hzs:z.cells.size=P.cellsOf e){xs ys:List (List D)}{olds news:List Value}(old:Nat)(hb:xs.length+ys.length<=maxLen)(hlx:∀c∈xs,c.length=P.cellsOf e)(hly:∀c∈ys,c.length=P.cellsOf e)(tQ:olds.length=xs.length*P.cellsOf e)(hln:news.length=ys.length*P.cellsOf e)(ho:∀(i j:Nat) (c:List D) (d:D),xs[i]? =some c->c[j]? =some d->d.one=true/\∃v,olds[i*P.cellsOf e+j]? =some v/\V R w v d)(hn:∀(i j:Nat) (c:List D) (d:D),ys[i]? =some c->c[j]? =some d->d.one=true/\∃v,news[i*P.cellsOf e+j]? =some v/\V R w v d)(cs:Array Value)(pR:cs=olds.toArray++news.toArray++Builtin.zeroCells z.cells (grownCap w (xs.length+ys.length) old e-(xs.length+ys.length))):
  ∃R',Rel P G base R' μ st a (w.drew.alloc (.cells cs e))/\Step base R w R' (w.drew.alloc (.cells cs e))/\
   V R' (w.drew.alloc (.cells cs e)) (.slice (some ⟨w.heap.size,0,none⟩) (xs.length+ys.length) (grownCap w (xs.length+ys.length) old e)) (.sl (xs++ys))/\
   a3n P base R' μ st a (w.drew.alloc (.cells cs e)) (.slice (some ⟨w.heap.size,0,none⟩) (xs.length+ys.length) (grownCap w (xs.length+ys.length) old e)) (.fresh e):=by
 have hge:=grownCap_ge w (xs.length+ys.length) old e;have d7Y:=grownCap_le_maxLen w (xs.length+ys.length) old e hb;have hU:cs.size=grownCap w (xs.length+ys.length) old e*P.cellsOf e:=by rw[pR];simp only[Array.size_append,List.size_toArray,size_zeroCells,hzs,tQ,hln, <- Nat.add_mul];congr 1;omega
 have:=hr.newRow (w1:=w.drew) (.inr rfl) (e:=e) (cs:=cs) (es:=xs++ys) (n:=xs.length+ys.length) hU hs (by simp) hge d7Y
  (λc hc=>by simp at hc;rcases hc with hc|hc;exact hlx c hc;exact hly c hc) (λi j c d hi hj=>by
   by_cases tT:i<xs.length
   .rw[f2Y tT]at hi;obtain⟨h1,v,h2,h3⟩:=ho i j c d hi hj;refine⟨h1,v,?_,h3⟩;have aI:=(f2O.1 h2).1;rw[pR,Array.getElem?_append,if_pos (by simp;omega),Array.getElem?_append,if_pos (by simpa using aI)];simpa using h2
   .rw[f2V (by omega)]at hi;obtain⟨h1,v,h2,h3⟩:=hn (i-xs.length) j c d hi hj;refine⟨h1,v,?_,h3⟩;have aI:=(f2O.1 h2).1;have c4Z:i*P.cellsOf e+j=olds.length+((i-xs.length)*P.cellsOf e+j):=by rw[tQ, <- Nat.add_assoc, <- Nat.add_mul];congr 2;omega
    rw[pR,c4Z,Array.getElem?_append,if_pos (by simp;omega),Array.getElem?_append,if_neg (by simp)];simpa using h2)
 exact⟨_,this⟩
theorem b8A(hr:Rel P G base R μ st a w){t t' e:TypeId}{x:Operand}{ys:List (List D)}(hu:P.underlying t=some (.slice e))(a0V:0<P.cellsOf e)(h:b6d P t t' (st.eval G x)=some ys)(hly:∀c∈ys,c.length=P.cellsOf e):
  ∃news:List Value,Src P (P.cellsOf e) t' (a.eval x) ys.length news w/\∀(i j:Nat) (c:List D) (d:D),ys[i]? =some c->c[j]? =some d->d.one=true/\∃v,news[i*P.cellsOf e+j]? =some v/\V R w v d:=by
 unfold b6d at h;split at h
 .rename_i ht;subst ht;obtain⟨ao,cap,h1,h2⟩:=b4M hr h;by_cases dX:ys=[]
  .subst dX;refine⟨[],?_,by simp⟩;rw[h1];cases ao with
   |none=>exact Src.ofNil w hu cap
   |some ad=>exact Src.ofSlice w hu ad 0 cap [] (by simp) (by simp) (by simp)
  .obtain⟨b,off,size,rfl,q1,q2,q3⟩:=h2 dX;have hU:size=P.cellsOf e:=by
    cases ys with
    |nil=>exact absurd rfl dX
    |cons c l=>rw[<-q2 c (.head _),hly c (.head _)]
   subst hU;obtain⟨news,n1,n2,n3,n4⟩:=a7b q2 q3;refine⟨news,?_,n4⟩;rw[h1];exact Src.ofSlice w hu _ _ cap news n1 n2 n3
 .split at h
  .rename_i e' s hk he hx;have hee:e'=e:=by
    have:=a2b he;rw[hu]at this;cases this
    rfl
   subst hee;split at h
   .rename_i hc;cases h;refine⟨byteCells ⟨s.toArray⟩,?_,λi j c d hi hj=>?_⟩
    .rw[hr.a6Z hx,hc.2];have:=Src.ofString w hk ⟨s.toArray⟩;simpa[ByteArray.size]using this
    .rw[f2X]at hi;obtain⟨b,hb,rfl⟩:=f2M.1 hi;cases j with
     |zero=>simp at hj;subst hj;refine⟨rfl,.int .u8 b.toNat,?_,.int _ _⟩;rw[hc.2];simp[byteCells,hb]
     |succ j=>simp at hj
   .cases h
  .cases h
theorem a2K{t t' e ty:TypeId}{i:TypeInfo}{x:Value}(hu:P.underlying t=some (.slice e))(hi:P.info? e=some i)(hs:Src P i.size t' x 0 [] w)(b:Option Addr)(n cap:Nat)(hn:n<=cap):
  (Builtin.append_ #[t,t'] ty #[.slice b n cap,x]).run P w=.ok (.slice b n cap) w:=by
 rcases hs.kind with⟨e',hk⟩|hk<;>cases b<;>simp[Builtin.append_,run_underlying hu,run_underlying hk,sizeOf,typeInfo,hi,hs.len,hn,hs.cells,storeCells]
theorem a8y{t t' ty e:TypeId}{i:TypeInfo}(ht:P.underlying t=some (.slice e))(hi:P.info? e=some i){g c1G d8b:Nat}{cur:Array Value}(hg:w.heap[g]? =some (.cells cur e (0,0))){x:Value}{m:Nat}{news:List Value}(hs:Src P i.size t' x m news w)(a3w:c1G+m<=d8b)(jB:c1G*i.size+news.length<=cur.size):
  (Builtin.append_ #[t,t'] ty #[.slice (some ⟨g,0,none⟩) c1G d8b,x]).run P w=
   .ok (.slice (some ⟨g,0,none⟩) (c1G+m) d8b) (w.setRow g (cur.toList.take (c1G*i.size)++news++cur.toList.drop (c1G*i.size+news.length)).toArray):=by
 have mM:=run_storeCells_at P g (c1G*i.size) e news 0 cur w hg (by simpa using jB) hs.one;simp only[Nat.add_zero]at mM;rcases hs.kind with⟨e',hk⟩|hk<;>simp[Builtin.append_,run_underlying ht,run_underlying hk,sizeOf,typeInfo,hi,hs.len,a3w,hs.cells,Addr.add_lit,mM]
theorem c1H{o:Oper}{t t':TypeId}{s x:Operand}(ho:o.op=.call {callee:=.builtin .append,args:=#[s,x],argTypes:=#[t,t']})(h:a1T P G t t' s x st=some out):qF P G o st out:=by
 unfold a1T at h;split at h
 case h_2=>cases h
 rename_i e ys he hys;split at h
 case isFalse=>cases h
 rename_i hc;obtain⟨rK,cY⟩:=hc;obtain⟨ti,z,hi,tZ,a6c,a0V,hz,hzs⟩:=wQ rK;have hu:=a2b he;have hly:∀c∈ys,c.length=P.cellsOf e:=λc hc=>by simpa using f2Q.1 cY c hc
 have a3x:∀(a:Act) (w:World) (v:Value) (w':World),(Builtin.append_ #[t,t'] o.type #[a.eval s,a.eval x]).run P w=.ok v w'->(execOp a.eval o).run P w=.ok (.value v) w':=λa w v w' hr=>by simp[execOp,ho,resolve,invoke,builtin,hr]
 have b4N:∀ {base:cN} {R:Nat->Nat->Prop} {μ:Nat->Nat} {a:Act} {w:World},Rel P G base R μ st a w->∃news:List Value,Src P ti.size t' (a.eval x) ys.length news w/\∀(i j:Nat) (c:List D) (d:D),ys[i]? =some c->c[j]? =some d->d.one=true/\∃v,news[i*P.cellsOf e+j]? =some v/\V R w v d:=λhr=>by rw[tZ];exact b8A hr hu a0V hys hly
 have d5V:∀ {news:List Value} {v:Value} {w:World},Src P ti.size t' v ys.length news w->ys=[]->news=[]:=λhs hy=>by have:=hs.newsLen;rw[hy]at this;exact List.eq_nil_of_length_eq_zero (by simpa using this)
 have b0l:∀(st':St) (dP:List (TypeId×List Loc)),st'={st with own:=dP}->ys.length*(P.bytesOf e+1)<=140737488355328->∀ {base:cN} {R:Nat->Nat->Prop} {μ:Nat->Nat} {a:Act} {w:World},Rel P G base R μ st a w->Rel P G base R μ st' a w->(∃ao,a.eval s=.slice ao 0 0)->
   ∃v w' R' μ',((execOp a.eval o).run P w=.ok (.value v) w'\/((execOp a.eval o).run P w=.ok .skip w'/\v=Go.undef))/\Rel P G base R' μ' st' a w'/\TV R' μ' w' v (.d (.sl ys))/\a3n P base R' μ' st' a w' v (.fresh e)/\Step base R w R' w':=by
  intro st' dP e9I hbd base R μ a w hr eK ⟨ao,hs⟩;obtain⟨news,b3O,h5⟩:=b4N hr;have h2:news.length=ys.length*P.cellsOf e:=by rw[b3O.newsLen,tZ]
  by_cases dX:ys=[]
  .have hn0:=d5V b3O dX;subst dX;subst hn0;obtain⟨vs,pF⟩:=eK.own;refine⟨.slice ao 0 0,w,R,μ,.inl (a3x a w _ w ?_),eK,.d _ _ (.emp _ _),⟨.inl ⟨ao,rfl⟩,λk o _=>by cases ao<;>simp[bF],vs,pF,λv' _=>⟨λg hg=>by cases ao<;>simp[bF]at hg,λg _ hg=>by cases ao<;>simp[bF]at hg⟩⟩,.refl _ _ _⟩;rw[hs];exact a2K hu hi b3O ao 0 0 (f3d _)
  .have hlen:0<ys.length:=by cases ys with|nil=>exact absurd rfl dX|cons _ _=>simp
   have hb1:ys.length<=140737488355328:=by rw[Nat.mul_add]at hbd;omega
   have hb2:ys.length*P.bytesOf e<=140737488355328:=by rw[Nat.mul_add]at hbd;omega
   obtain⟨R',n1,n2,n3,n4⟩:=a6d eK (e:=e) (z:=z) a0V hzs (xs:=[]) (ys:=ys) (olds:=[]) (news:=news) 0 (by unfold maxLen;simp;omega) (by simp) hly (by simp) h2 (by simp) h5 _ rfl;simp only[List.length_nil,Nat.zero_add,List.nil_append]at n1 n2 n3 n4;refine⟨_,_,R',μ,.inl (a3x a w _ _ ?_),n1,.d _ _ n3,n4,n2⟩;rw[hs];have:=run_append_grow_src (P:=P) w t t' o.type e ti z hu hi hz ao 0 0 [] (by cases ao<;>simp[Builtin.firstCells,loadCells,loadCellsFrom]) (a.eval x) ys.length news b3O (by omega) (by omega) (by rw[a6c];exact growslice_fits (by omega) (by rw[Nat.zero_add];exact hb2));simpa using this
 split at h
 .rename_i hsn;split at h
  case isFalse=>cases h
  rename_i hbd;simp only[f2T]at h;subst h;intro base R μ a w hr;exact b0l st st.own rfl hbd hr hr ((hr.jI hsn).jM)
 .rename_i xs i hsx;split at h
  case h_2=>cases h
  rename_i e' dP htk;split at h
  case isFalse=>cases h
  rename_i hc;obtain⟨rfl,e2y,hbd⟩:=hc;simp only[f2T]at h;subst h;intro base R μ a w hr;obtain⟨eK,v0,vs,hv0,kF,a1t,pF,xE⟩:=hr.eV htk;have hsv:a.eval (.tmp i)=v0:=by
   refine hv0 _ ?_
   show a.tmps[i]? =some (a.tmps.getD i undef)
   by_cases hs:i<a.tmps.size
   .simp[hs]
   .have h3: ¬i<st.tmps.length:=by rw[<-hr.size];exact hs
    simp[St.eval,List.getD,List.getElem?_eq_none (Nat.le_of_not_lt h3)]at hsx
  have hV:=hr.jI hsx;have hlx:∀c∈xs,c.length=P.cellsOf e':=λc hc=>by simpa using f2Q.1 e2y c hc
  rcases kF with⟨ao,rfl⟩|⟨g,n,cap,cur,rfl,hbg,hg,hnc,hcm,pR,hnR⟩
  .have hx0:xs=[]:=by obtain⟨ao',d2w,h1,_⟩:=hV.xH;rw[hsv]at h1;exact List.eq_nil_of_length_eq_zero (Value.slice.inj h1).2.1.symm
   subst hx0;simp only[List.length_nil,Nat.zero_add]at hbd;simpa using b0l {st with own:=dP} dP rfl hbd hr eK ⟨ao,hsv⟩
  .obtain⟨ao',d2w,h1,_,c7E⟩:=hV.xH;rw[hsv]at h1;cases h1;have holds:∃olds:List Value,olds.length=xs.length*P.cellsOf e'/\(∀(j:Nat) (u:Value),olds[j]? =some u->w.cell? ((⟨g,0,none⟩:Addr).add j)=some u)/\
     ∀(i j:Nat) (c:List D) (d:D),xs[i]? =some c->c[j]? =some d->d.one=true/\∃v,olds[i*P.cellsOf e'+j]? =some v/\V R w v d:=by
    by_cases hx0:xs=[]
    .subst hx0;exact⟨[],by simp,by simp,by simp⟩
    .obtain⟨b,o',size,hba,q1,q2,q3⟩:=c7E hx0;cases hba;have hU:size=P.cellsOf e':=by
      cases xs with
      |nil=>exact absurd rfl hx0
      |cons c l=>rw[<-q2 c (.head _),hlx c (.head _)]
     subst hU;obtain⟨olds,n1,n2,_,n4⟩:=a7b q2 q3;exact⟨olds,n1,n2,n4⟩
   obtain⟨olds,o1,o2,o3⟩:=holds;have hb1:xs.length+ys.length<=140737488355328:=by rw[Nat.mul_add]at hbd;omega
   have hb2:(xs.length+ys.length)*P.bytesOf e'<=140737488355328:=by rw[Nat.mul_add]at hbd;omega
   obtain⟨news,b3O,h5⟩:=b4N hr;have h2:news.length=ys.length*P.cellsOf e':=by rw[b3O.newsLen,tZ]
   by_cases dX:ys=[]
   .have hn0:=d5V b3O dX;subst dX;subst hn0;refine⟨.slice (some ⟨g,0,none⟩) xs.length cap,w,R,μ,.inl (a3x a w _ w ?_),eK,.d _ _ ?_,⟨.inr ⟨g,_,cap,cur,rfl,hbg,hg,hnc,hcm,pR,hnR⟩,a1t,vs,pF,xE⟩,.refl _ _ _⟩
    .rw[hsv];exact a2K hu hi b3O _ _ cap hnc
    .rw[List.append_nil, <- hsv];exact hV
   .have hlen:0<ys.length:=by cases ys with|nil=>exact absurd rfl dX|cons _ _=>simp
    by_cases a3w:xs.length+ys.length<=cap
    .have hmul:(xs.length+ys.length)*P.cellsOf e'<=cap*P.cellsOf e':=Nat.mul_le_mul_right _ a3w;have jB:xs.length*P.cellsOf e'+news.length<=cur.size:=by rw[h2,pR, <- Nat.add_mul];exact hmul
     have cD:=a8y (P:=P) (ty:=o.type) hu hi hg b3O a3w (by rw[tZ];exact jB);rw[tZ]at cD;generalize b8C:(cur.toList.take (xs.length*P.cellsOf e')++news++cur.toList.drop (xs.length*P.cellsOf e'+news.length)).toArray=cur' at cD;have a2Y:∀k,cur'[k]? =if k<xs.length*P.cellsOf e' then cur[k]? else if k<xs.length*P.cellsOf e'+news.length then news[k-xs.length*P.cellsOf e']? else cur[k]? :=λk=>by rw[<-b8C,List.getElem?_toArray,a2a _ _ _ (by simpa using jB)];simp
     have b0m:bF (.slice (some ⟨g,0,none⟩) xs.length cap)=some g:=by simp[bF];omega
     obtain⟨q1,q2,q3⟩:=eK.c3z (g:=g) (n:=xs.length) (m:=ys.length) (s:=P.cellsOf e') (cur':=cur') (λk o' hk he=>a1t k o' hk (by rw[b0m,he])) pF (λv' yA hsp=>(xE v' yA).1 g b0m hsp) hbg hg hnR (λoff c4W=>by rw[a2Y,if_pos c4W]);have b3N:(w.setRow g cur').heap[g]? =some (.cells cur' e' (0,0)):=setRow_heap w g cur _ e' _ hg;have c7C:cur'.size=cap*P.cellsOf e':=by rw[<-b8C, <- pR];simp only[List.size_toArray,List.length_append,List.length_take,List.length_drop,Array.length_toList];omega
     refine⟨.slice (some ⟨g,0,none⟩) (xs.length+ys.length) cap,_,_,μ,.inl (a3x a w _ _ (by rw[hsv];exact cD)),q1,.d _ _ ?_,?_,q2⟩
     .have mY:∀(i j:Nat) (c:List D) (d:D),(xs++ys)[i]? =some c->c[j]? =some d->d.one=true/\∃v,(w.setRow g cur').cell? ⟨g,0+i*P.cellsOf e'+j,none⟩=some v/\V R w v d:=λi j c d hi' hj=>by
       rw[Nat.zero_add,cell_of_row _ _ _ cur' e' (0,0) b3N,a2Y];by_cases tT:i<xs.length
       .rw[f2Y tT]at hi';obtain⟨w1,v,w2,w3⟩:=o3 i j c d hi' hj;have aI:=(f2O.1 w2).1;have b1o:=o2 _ v w2;rw[kG,Nat.zero_add,cell_of_row _ _ _ cur e' (0,0) hg]at b1o;rw[if_pos (by omega)];exact⟨w1,v,b1o,w3⟩
       .rw[f2V (by omega)]at hi';obtain⟨w1,v,w2,w3⟩:=h5 (i-xs.length) j c d hi' hj;have aI:=(f2O.1 w2).1;have c4Z:i*P.cellsOf e'+j=xs.length*P.cellsOf e'+((i-xs.length)*P.cellsOf e'+j):=by rw[<-Nat.add_assoc, <- Nat.add_mul];congr 2;omega
        rw[c4Z,if_neg (by omega),if_pos (by omega),Nat.add_sub_cancel_left];exact⟨w1,v,w2,w3⟩
      refine .sl g 0 _ cap (P.cellsOf e') _ (λi j=>((w.setRow g cur').cell? ⟨g,0+i*P.cellsOf e'+j,none⟩).getD undef) (by simp) a3w a0V (λc hc=>by simp at hc;rcases hc with hc|hc;exact hlx c hc;exact hly c hc) (λi j hi' hj=>⟨.inr ⟨rfl,?_⟩,?_⟩) (λi j c d hi' hj=>(mY i j c d hi' hj).1) (λi j c d hi' hj=>?_)
      .have:(i+1)*P.cellsOf e'<=(xs.length+ys.length)*P.cellsOf e':=Nat.mul_le_mul_right _ (by omega);rw[Nat.add_mul]at this;omega
      .have tT:i<(xs++ys).length:=by simp;omega
       have hei:=f2R tT;have xU:j<((xs++ys)[i]).length:=by
        have hm:(xs++ys)[i]∈xs++ys:=List.getElem_mem tT;rw[List.mem_append]at hm;rcases hm with hm|hm
        .rw[hlx _ hm];exact hj
        .rw[hly _ hm];exact hj
       obtain⟨_,v,hv,_⟩:=mY i j _ _ hei (f2R xU);rw[hv];rfl
      .obtain⟨_,v,hv,hvd⟩:=mY i j c d hi' hj;rw[hv];exact hvd.bK q2
     .refine⟨.inr ⟨g,_,cap,cur',rfl,hbg,b3N,a3w,hcm,c7C,λoff c4W hR=>?_⟩,λk o' hk=>by have:=a1t k o' hk;rw[b0m]at this;simpa[bF,show cap≠0 by omega]using this,vs,q3,λv' yA=>?_⟩
      .rcases hR with hR|⟨_,hR⟩
       .have:xs.length*P.cellsOf e'<=(xs.length+ys.length)*P.cellsOf e':=Nat.mul_le_mul_right _ (by omega);exact hnR off (by omega) hR
       .omega
      .have c7F:bF (.slice (some ⟨g,0,none⟩) (xs.length+ys.length) cap)=some g:=by simp[bF];omega
       exact⟨λg' hg' c1I=>(xE v' yA).1 g' (by rw[b0m, <- c7F];exact hg') c1I,λg' hg' c1I=>(xE v' yA).2 g' hg' (by rw[b0m, <- c7F];exact c1I)⟩
    .obtain⟨R',n1,n2,n3,n4⟩:=a6d eK (e:=e') (z:=z) a0V hzs (xs:=xs) (ys:=ys) (olds:=olds) (news:=news) cap (by unfold maxLen;omega) hlx hly o1 h2 o3 h5 _ rfl;refine⟨_,_,R',μ,.inl (a3x a w _ _ ?_),n1,.d _ _ n3,n4,n2⟩;rw[hsv];have:=run_append_grow_src (P:=P) w t t' o.type e' ti z hu hi hz (some ⟨g,0,none⟩) xs.length cap olds (run_firstCells_some w.drew ti.size xs.length ⟨g,0,none⟩ xs.length cap olds (by rw[o1,tZ]) (by simpa using o2)) (a.eval x) ys.length news b3O (by omega) (by omega) (by rw[a6c];exact growslice_fits (by omega) hb2);rw[this];congr 3;apply Array.ext';simp[List.append_assoc]
 .cases h
end
end Go.VM
namespace Go.VM
open Go Go.RowKit
def CH(P:Program)(G:GT)(f:FuncId)(s0 s1:St):Prop:=
 ∀(base:cN) (R:Nat->Nat->Prop) (μ:Nat->Nat) (args:Array Value) (w:World),Rel P G base R μ s0 {tmps:=args,defers:=[]} w->
  Calls P f args w λe w'=>∃v R' μ',e=.returned v/\Rel P G base R' μ' s1 {tmps:=#[v],defers:=[]} w'/\Step base R w R' w'
def rk:List (Nat×Nat)->Nat->Nat
 |[],k=>k
 |p::r,k=>if p.1=k then p.2 else rk r k
mutual
def bD (K:List (Nat×Nat)):DV->DV
 | .ptr k o=>.ptr (rk K k) o
 | .mp k=>.mp (rk K k)
 | .it k=>.it (rk K k)
 | .clo f cs=>.clo f (aO K cs)
 | .ag cs=>.ag (aO K cs)
 |d=>d
def aO (K:List (Nat×Nat)):List DV->List DV
 |[]=>[]
 |d::r=>bD K d::aO K r
end
mutual
def aP (K:List (Nat×Nat)):DV->Bool
 | .ptr k _=>K.any λp=>p.1==k
 | .mp k=>K.any λp=>p.1==k
 | .it k=>K.any λp=>p.1==k
 | .clo _ cs=>aL K cs
 | .ag cs=>aL K cs
 |_=>true
def aL (K:List (Nat×Nat)):List DV->Bool
 |[]=>true
 |d::r=>aP K d&&aL K r
end
def cQ(K:List (Nat×Nat)):aW->aW
 | .cells cs=>.cells (aO K cs)
 |o=>o
def aM(K:List (Nat×Nat)):aW->Bool
 | .cells cs=>aL K cs
 |_=>true
theorem pT(K:List (Nat×Nat)):∀l,aO K l=l.map (bD K)
 |[]=>by simp[aO]
 |d::r=>by simp[aO,pT K r]
theorem rD(K:List (Nat×Nat)):∀l,aL K l=true↔∀d∈l,aP K d=true
 |[]=>by simp[aL]
 |d::r=>by simp[aL,rD K r]
theorem zF{K:List (Nat×Nat)}{k:Nat}(h:(K.any λp=>p.1==k)=true):∃p∈K,p.1=k/\rk K k=p.2:=by
 induction K with
 |nil=>simp at h
 |cons p r ih=>
  unfold rk;by_cases hp:p.1=k
  .exact⟨p,.head _,hp,by rw[if_pos hp]⟩
  .simp only[List.any_cons,f2Z,beq_iff_eq,hp,false_or]at h;obtain⟨q,h1,h2,h3⟩:=ih h;exact⟨q,.tail _ h1,h2,by rw[if_neg hp];exact h3⟩
section
variable {P:Program} {G:GT} {R:Nat->Nat->Prop} {w:World} {K:List (Nat×Nat)} {μ ν:Nat->Nat}
theorem TV.ren{v:Value}{d:DV}(hν:∀k,(K.any λp=>p.1==k)=true->ν k=μ (rk K k)):aP K d=true->TV R μ w v (bD K d)->TV R ν w v d:=by
 intro hk h;generalize he:bD K d=d' at h
 induction h generalizing d with
 |d v x h=>cases d<;>simp only[bD]at he<;>cases he;exact .d v x h
 |undef v=>cases d<;>simp only[bD]at he<;>cases he;exact .undef v
 |ptr k off=>cases d<;>simp only[bD]at he<;>cases he;rw[<-hν _ (by simpa[aP]using hk)];exact .ptr _ off
 |ep b o cs h=>cases d<;>simp only[bD]at he<;>cases he;exact .ep b o cs h
 |mp k=>cases d<;>simp only[bD]at he<;>cases he;rw[<-hν _ (by simpa[aP]using hk)];exact .mp _
 |it k=>cases d<;>simp only[bD]at he<;>cases he;rw[<-hν _ (by simpa[aP]using hk)];exact .it _
 |cJ vs ds h1 h2=>cases d<;>simp only[bD]at he<;>cases he;exact .cJ vs ds h1 h2
 |fn f=>cases d<;>simp only[bD]at he<;>cases he;exact .fn f
 |pC b=>cases d<;>simp only[bD]at he<;>cases he;exact .pC b
 |wL T=>cases d<;>simp only[bD]at he<;>cases he;exact .wL T
 |clo f vs cs h1 h2 ih=>cases d<;>simp only[bD]at he<;>cases he;rename_i cs0;simp only[aP,rD]at hk;rw[pT]at h1 ih;refine .clo f vs cs0 (by simpa using h1) λi c hi=>?_;exact ih i (bD K c) (by rw[f2X,hi];rfl) (hk c (f2S hi)) rfl
 |ag vs cs h1 h2 h3 h4 ih=>
  cases d<;>simp only[bD]at he<;>cases he;rename_i cs0;simp only[aP,rD]at hk;rw[pT]at h1 h2 h3 ih;refine .ag vs cs0 (by simpa using h1) (λi hi=>h2 i (by simpa using hi)) (λi c hi=>?_) λi c hi=>?_
  .have:=h3 i (bD K c) (by rw[f2X,hi];rfl);rw[<-this];cases c<;>rfl
  .exact ih i (bD K c) (by rw[f2X,hi];rfl) (hk c (f2S hi)) rfl
theorem TV.b4O{v:Value}{d:DV}(hν:∀k,(K.any λp=>p.1==k)=true->ν k=μ (rk K k)):aP K d=true->TV R ν w v d->TV R μ w v (bD K d):=by
 intro hk h
 induction h with
 |d v x h=>exact .d v x h
 |undef v=>exact .undef v
 |ptr k off=>rw[hν _ (by simpa[aP]using hk)];exact .ptr _ off
 |ep b o cs h=>exact .ep b o cs h
 |mp k=>rw[hν _ (by simpa[aP]using hk)];exact .mp _
 |it k=>rw[hν _ (by simpa[aP]using hk)];exact .it _
 |cJ vs ds h1 h2=>exact .cJ vs ds h1 h2
 |fn f=>exact .fn f
 |pC b=>exact .pC b
 |wL T=>exact .wL T
 |clo f vs cs h1 h2 ih=>simp only[aP,rD]at hk;simp only[bD,pT];refine .clo f vs _ (by simpa using h1) λi c hi=>?_;rw[f2X]at hi;obtain⟨c0,xZ,rfl⟩:=f2M.1 hi;exact ih i c0 xZ (hk c0 (f2S xZ))
 |ag vs cs h1 h2 h3 h4 ih=>
  simp only[aP,rD]at hk;simp only[bD,pT];refine .ag vs _ (by simpa using h1) (λi hi=>h2 i (by simpa using hi)) (λi c hi=>?_) λi c hi=>?_
  .rw[f2X]at hi;obtain⟨c0,xZ,rfl⟩:=f2M.1 hi;have:=h3 i c0 xZ;rw[<-this];cases c0<;>rfl
  .rw[f2X]at hi;obtain⟨c0,xZ,rfl⟩:=f2M.1 hi;exact ih i c0 xZ (hk c0 (f2S xZ))
theorem b4P(d:DV):(bD K d).cell=d.cell:=by cases d<;>rfl
theorem gK.ren{b:Nat}{o:aW}(hν:∀k,(K.any λp=>p.1==k)=true->ν k=μ (rk K k))(hk:aM K o=true)(h:gK R μ w b (cQ K o)):gK R ν w b o:=by
 cases o with
 |cells cs=>obtain⟨vs,T,h1,h2,h3,h4⟩:=h;rw[pT]at h2 h3 h4;simp only[aM,rD]at hk;refine⟨vs,T,h1,by simpa using h2,λi d hi=>?_,λT' hm=>h4 T' (List.mem_map.2 ⟨_,hm,rfl⟩)⟩;obtain⟨q1,q2⟩:=h3 i (bD K d) (by rw[f2X,hi];rfl);exact⟨by rw[b4P]at q1;exact q1,q2.ren hν (hk d (f2S hi))⟩
 |map es=>exact h
 |iter s p=>exact h
 |bld T u es=>exact h
theorem gK.b4O{b:Nat}{o:aW}(hν:∀k,(K.any λp=>p.1==k)=true->ν k=μ (rk K k))(hk:aM K o=true)(h:gK R ν w b o):gK R μ w b (cQ K o):=by
 cases o with
 |cells cs=>
  obtain⟨vs,T,h1,h2,h3,h4⟩:=h;simp only[aM,rD]at hk;refine⟨vs,T,h1,by simp[pT,h2],λi d hi=>?_,λT' hm=>?_⟩
  .rw[pT,f2X]at hi;obtain⟨d0,hd0,rfl⟩:=f2M.1 hi;exact⟨by rw[b4P];exact(h3 i d0 hd0).1,(h3 i d0 hd0).2.b4O hν (hk d0 (f2S hd0))⟩
  .rw[pT]at hm;obtain⟨d0,hd0,he⟩:=List.mem_map.1 hm;cases d0<;>simp only[bD]at he<;>cases he;exact h4 _ hd0
 |map es=>exact h
 |iter s p=>exact h
 |bld T u es=>exact h
end
end Go.VM
end
