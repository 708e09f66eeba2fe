/- Lemmas that the law of this claim needs (Z1). No condition. -/
import Derived.WalkKit
import Derived.Laws.StructEq
import Derived.Laws.Strings2
import Derived.MapKept
import Derived.Deep.AppendSrc
set_option linter.unusedVariables false
set_option linter.unusedSimpArgs false
set_option linter.unusedSectionVars false
set_option maxRecDepth 100000
set_option maxHeartbeats 64000000
theorem g0V:type_of% @Option.map_eq_some_iff:=@Option.map_eq_some_iff
theorem g0W:type_of% @Bool.and_eq_true:=@Bool.and_eq_true
theorem g0X:type_of% @List.getElem?_eq_some_iff:=@List.getElem?_eq_some_iff
theorem g0Y:type_of% @Array.getD_eq_getD_getElem?:=@Array.getD_eq_getD_getElem?
theorem g0Z:type_of% @List.all_eq_true:=@List.all_eq_true
theorem g1a:type_of% @List.getElem?_eq_getElem:=@List.getElem?_eq_getElem
theorem g1b:type_of% @List.mem_of_getElem?:=@List.mem_of_getElem?
theorem g1c:type_of% @Option.some.injEq:=@Option.some.injEq
theorem g1d:type_of% @List.mem_singleton:=@List.mem_singleton
theorem g1e:type_of% @List.getElem?_append_right:=@List.getElem?_append_right
theorem g1f:type_of% @Array.getElem?_eq_some_iff:=@Array.getElem?_eq_some_iff
theorem g1g:type_of% @List.getElem?_map:=@List.getElem?_map
theorem g1h:type_of% @List.getElem?_append_left:=@List.getElem?_append_left
theorem g1i:type_of% @Bool.or_eq_true:=@Bool.or_eq_true
theorem g1j:type_of% @List.drop_eq_getElem_cons:=@List.drop_eq_getElem_cons
theorem g1k:type_of% @Option.bind_eq_some_iff:=@Option.bind_eq_some_iff
theorem g1l:type_of% @List.take_succ_eq_append_getElem:=@List.take_succ_eq_append_getElem
theorem g1m:type_of% @Nat.le_refl:=@Nat.le_refl
theorem g1n:type_of% @List.getElem?_of_mem:=@List.getElem?_of_mem
theorem g1o:type_of% @Array.getElem?_eq_getElem:=@Array.getElem?_eq_getElem
theorem g1p:type_of% @List.getElem?_drop:=@List.getElem?_drop
section
namespace Go.VM
open Go Go.RowKit
inductive D where
 |int (k:IntKind) (n:Int)
 |bool (b:Bool)
 |str (s:List UInt8)
 |aD
 |sl (es:List (List D))
 |agg (cs:List D)
inductive DV where
 |d (x:D)
 |undef
 |ptr (key off:Nat)
 |ep (cs:List D)
 |mp (key:Nat)
 |it (key:Nat)
 |cI (ds:List D)
 |fn (f:FuncId)
 |qF
 |zY (T:TypeId)
 |clo (f:FuncId) (c1l:List DV)
 |ag (cs:List DV)
inductive bD where
 |cells (cs:List DV)
 |map (es:List (D×D))
 |iter (s:List UInt8) (pos:Nat)
 |bld (T:TypeId) (u:Bool) (es:List (List D))
inductive Loc where
 |t (i:Nat)
 |c (key off:Nat)
 deriving DecidableEq
inductive OA where
 |no
 |al (l:Loc)
 |fresh (e:TypeId)
structure St where
 tmps:List DV
 H:List (Nat×bD)
 own:List (TypeId×List Loc)
def D.one:D->Bool
 | .agg _=>false
 |_=>true
def D.cells:D->List D
 | .agg cs=>cs
 |x=>[x]
def zZ:Value->Option D
 | .int k n=>some (.int k n)
 | .bool b=>some (.bool b)
 | .string s=>some (.str s.data.toList)
 | .slice none 0 0=>some .aD
 |_=>none
def yP:List Value->Option (List D)
 |[]=>some []
 |v::l=>match zZ v,yP l with
  |some x,some ds=>some (x::ds)
  |_,_=>none
def ofConst:Value->DV
 | .agg cs=>match yP cs.toList with
  |some ds=>.d (.agg ds)
  |none=>.undef
 |v=>match zZ v with
  |some x=>.d x
  |none=>.undef
abbrev GT:=Nat->Option (List D)
def St.eval(G:GT)(st:St):Operand->DV
 | .tmp t=>st.tmps.getD t (.cI [])
 | .const v=>ofConst v
 | .global g=>match G g with
  |some cs=>.ep cs
  |none=>.undef
 | .func f=>.fn f
def getKey(k:Nat):List (Nat×bD)->Option bD
 |[]=>none
 |(k',o)::r=>if k'=k then some o else getKey k r
def a1r(k:Nat)(o:bD):List (Nat×bD)->List (Nat×bD)
 |[]=>[]
 |(k',o')::r=>if k'=k then(k,o)::r else(k',o')::a1r k o r
def oC(k:Nat)(o:bD):List (Nat×bD)->List (Nat×bD)
 |[]=>[(k,o)]
 |(k',o')::r=>if k<k' then(k,o)::(k',o')::r else(k',o')::oC k o r
def bU(k:Nat)(o:bD)(H:List (Nat×bD)):List (Nat×bD):=if (getKey k H).isSome then a1r k o H else oC k o H
mutual
def mentions (key:Nat):DV->Bool
 | .ptr k _=>k==key
 | .mp k=>k==key
 | .it k=>k==key
 | .clo _ cs=>oT key cs
 | .ag cs=>oT key cs
 |_=>false
def oT (key:Nat):List DV->Bool
 |[]=>false
 |d::r=>mentions key d||oT key r
end
def mX(key:Nat)(d:DV):DV:=if mentions key d then .undef else d
def a2q(key:Nat):bD->bD
 | .cells cs=>.cells (cs.map (mX key))
 |o=>o
def cZ(l:Loc)(own:List (TypeId×List Loc)):List (TypeId×List Loc):=own.map λc=>(c.1,c.2.filter λx=>decide (x≠l))
def Loc.a0a(key:Nat):Loc->Bool
 | .c k _=>k==key
 |_=>false
def dropKey(key:Nat)(own:List (TypeId×List Loc)):List (TypeId×List Loc):=own.map λc=>(c.1,c.2.filter λx=> !x.a0a key)
def addAlias(src dst:Loc)(own:List (TypeId×List Loc)):List (TypeId×List Loc):=own.map λc=>if c.2.contains src then(c.1,dst::c.2) else c
def eO(dst:Loc)(act:OA)(own:List (TypeId×List Loc)):List (TypeId×List Loc):=
 match act with
 | .no=>cZ dst own
 | .al l=>if l=dst then own else addAlias l dst (cZ dst own)
 | .fresh e=>(e,[dst])::cZ dst own
def finish(st:St)(dst:Option Tmp)(v:DV)(act:OA):St:=
 match dst with
 |none=>st
 |some d=>{st with tmps:=st.tmps.set d v,own:=eO (.t d) act st.own}
def gK(st:St)(key:Nat)(o:bD):St:=
 {tmps:=st.tmps.map (mX key),H:=bU key o (st.H.map λp=>(p.1,a2q key p.2)),own:=dropKey key st.own}
def pV:TypeDesc->Bool
 | .struct _| .array _ _=>true
 |_=>false
def takeD(P:Program)(t:TypeId)(cs:List D):Option D:=
 match P.underlying t with
 |some d=>if pV d then(if P.cellsOf t<=cs.length then some (.agg (cs.take (P.cellsOf t))) else none) else cs.head?
 |none=>none
def c1m:Value->Bool
 | .pointer none=>true
 |_=>false
def cellOf(v:Value):DV:=match zZ v with
 |some x=>.d x
 |none=>.undef
def a2r(t:TypeId)(v:Value):DV:=match zZ v with
 |some x=>.d x
 |none=>if c1m v then .zY t else .undef
def c3P(P:Program)(t:TypeId):Option (List DV):=((P.info? t).bind (·.zero)).map λz=>z.cells.toList.map (a2r t)
def kN(P:Program)(t:TypeId):Option (List D):=((P.info? t).bind (·.zero)).bind λz=>yP z.cells.toList
def c3Q(P:Program)(t:TypeId):Option (List DV):=((P.info? t).bind (·.zero)).bind λz=>if z.cells.toList.all (·.oneCell') then some (z.cells.toList.map cellOf) else none
def b4Z:List DV->bD
 |[.zY T,.d .aD]=>.bld T false []
 |cs=>.cells cs
def gR(P:Program)(t:TypeId):Option TypeId:=
 match P.underlying t with
 |some (.slice e)=>some e
 |_=>none
def aI(P:Program)(t:TypeId)(i:Nat):Option (Nat×TypeId):=
 match P.underlying t with
 |some (.struct fs)=>(fs[i]?).map λf=>(f.offset,f.type)
 |_=>none
def d9G(op:BinOp):D->D->Option D
 | .int k a,.int k' b=>
  if k≠k' then none else
  match op with
  | .add=>some (.int k (k.wrap (a+b)))
  | .sub=>some (.int k (k.wrap (a-b)))
  | .mul=>some (.int k (k.wrap (a*b)))
  | .quo=>if b=0 then none else some (.int k (k.wrap (a.tdiv b)))
  | .rem=>if b=0 then none else some (.int k (a.tmod b))
  | .eql=>some (.bool (a==b))
  | .neq=>some (.bool (a !=b))
  | .lss=>some (.bool (decide (a<b)))
  | .leq=>some (.bool (decide (a<=b)))
  | .gtr=>some (.bool (decide (a>b)))
  | .geq=>some (.bool (decide (a>=b)))
  |_=>none
 | .str a,.str b=>
  match op with
  | .add=>if a.length+b.length<=9223372036854775807 then some (.str (a++b)) else none
  | .eql=>some (.bool (a==b))
  | .neq=>some (.bool !(a==b))
  | .lss=>some (.bool (Op.bytesLess a b))
  | .leq=>some (.bool (Op.bytesLess a b||a==b))
  | .gtr=>some (.bool !(Op.bytesLess a b||a==b))
  | .geq=>some (.bool !(Op.bytesLess a b))
  |_=>none
 |_,_=>none
def a1s:D->D->Option Bool
 | .int k a,.int k' b=>if k=k' then some (a==b) else none
 | .str a,.str b=>some (a==b)
 | .bool a,.bool b=>some (a==b)
 |_,_=>none
def a0O:List D->List D->Option Bool
 |[],[]=>some true
 |x::xs,y::ys=>match a1s x y,a0O xs ys with
  |some a,some b=>some (a&&b)
  |_,_=>none
 |_,_=>none
def rN:TypeDesc->Bool
 | .bool| .int _| .string=>true
 |_=>false
def a3C(P:Program):Nat->List Field->Option (List TypeDesc)
 |_,[]=>some []
 |k,f::fs=>match P.underlying f.type,a3C P (k+1) fs with
  |some d,some ds=>if f.name≠ "_" /\f.offset=k/\rN d=true then some (d::ds) else none
  |_,_=>none
def b9t(P:Program)(t:TypeId):Option (List TypeDesc):=
 match P.underlying t with
 |some (.struct fs)=>if P.eqGuardType P.depth t=false/\P.stoodInHeld t=false then a3C P 0 fs.toList else none
 |_=>none
def tB:TypeDesc->D->Bool
 | .int _,.int _ _=>true
 | .string,.str _=>true
 | .bool,.bool _=>true
 |_,_=>false
def a0b:List TypeDesc->List D->Bool
 |[],[]=>true
 |d::ds,x::xs=>tB d x&&a0b ds xs
 |_,_=>false
def c7H:UnOp->D->Option D
 | .neg,.int k n=>some (.int k (k.wrap (0-n)))
 | .not,.bool b=>some (.bool !b)
 |_,_=>none
def overwrite{α:Type}(cells:List α)(off:Nat)(vs:List α):List α:=cells.take off++vs++cells.drop (off+vs.length)
def b9u(P:Program)(t:TypeId)(cells:List D):List (Nat×D)->Option (List D)
 |[]=>some cells
 |(i,v)::rest=>
  match aI P t i with
  |none=>none
  |some (off,u)=>if v.cells.length=P.cellsOf u/\off+v.cells.length<=cells.length then b9u P t (overwrite cells off v.cells) rest else none
def isD:DV->Option D
 | .d x=>some x
 |_=>none
def yQ:List DV->Option (List D)
 |[]=>some []
 | .d x::l=>match yQ l with
  |some ds=>some (x::ds)
  |none=>none
 |_::_=>none
def DV.cell:DV->Bool
 | .d x=>x.one
 | .it _=>false
 | .cI _=>false
 | .ag _=>false
 |_=>true
def b9v:DV->Bool
 | .zY _=>false
 |_=>true
def wB:DV->Option (List DV)
 | .d y=>some (y.cells.map .d)
 | .ptr k o=>some [.ptr k o]
 | .ep cs=>some [.ep cs]
 | .mp k=>some [.mp k]
 | .fn f=>some [.fn f]
 | .clo f cs=>some [.clo f cs]
 | .ag cs=>if cs.all b9v then some cs else none
 | .qF=>some [.qF]
 |_=>none
def b9w:DV->Bool
 | .undef=>false
 | .zY _=>false
 |c=>c.cell
def takeA(cs:List DV):Option DV:=match yQ cs with
 |some ds=>some (.d (.agg ds))
 |none=>if cs.all b9w then some (.ag cs) else none
def b2R(P:Program)(t:TypeId)(cs:List DV):Option DV:=
 match P.underlying t with
 |some d=>if pV d then(if P.cellsOf t<=cs.length then takeA (cs.take (P.cellsOf t)) else none) else cs.head?
 |none=>none
def a3d(G:GT)(st:St):List (Nat×Operand)->Option (List (Nat×D))
 |[]=>some []
 |(i,x)::l=>match st.eval G x,a3d G st l with
  | .d y,some ds=>some ((i,y)::ds)
  |_,_=>none
def a0t(G:GT)(st:St):List (Nat×Operand)->Option (List (Nat×List DV))
 |[]=>some []
 |(i,x)::l=>match wB (st.eval G x),a0t G st l with
  |some y,some ds=>some ((i,y)::ds)
  |_,_=>none
def b0i(P:Program)(t:TypeId)(cells:List DV):List (Nat×List DV)->Option (List DV)
 |[]=>some cells
 |(i,v)::rest=>
  match aI P t i with
  |none=>none
  |some (off,u)=>if v.length=P.cellsOf u/\off+v.length<=cells.length then b0i P t (overwrite cells off v) rest else none
def wC:Operand->OA
 | .tmp s=>.al (.t s)
 |_=>.no
def idx(x:D)(n:Nat):Option Nat:=
 match x with
 | .int _ i=>if 0<=i/\i<n then some i.toNat else none
 |_=>none
def bound(x:D)(n:Nat):Option Nat:=
 match x with
 | .int _ i=>if 0<=i/\i<=n then some i.toNat else none
 |_=>none
def hZ(G:GT)(st:St)(x:Option Operand)(d1l n:Nat):Option Nat:=
 match x with
 |none=>some d1l
 |some y=>match st.eval G y with
  | .d z=>bound z n
  |_=>none
structure Out where
 v:DV
 act:OA
 st:St
def findKeyD(k:D):List (D×D)->Option (Option D)
 |[]=>some none
 |(k',v)::r=>match a1s k k' with
  |some true=>some (some v)
  |some false=>findKeyD k r
  |none=>none
def a7p(k v:D):List (D×D)->Option (List (D×D))
 |[]=>some [(k,v)]
 |(k',v')::r=>match a1s k k' with
  |some true=>some ((k,v)::r)
  |some false=>match a7p k v r with
   |some r'=>some ((k',v')::r')
   |none=>none
  |none=>none
def a7q(k:D):List (D×D)->Option (List (D×D))
 |[]=>some []
 |(k',v')::r=>match a1s k k' with
  |some true=>some r
  |some false=>match a7q k r with
   |some r'=>some ((k',v')::r')
   |none=>none
  |none=>none
end Go.VM
namespace Go.VM
open Go Go.RowKit
section
variable (P:Program) (G:GT)
def tM(v:DV)(a:OA):OA:=
 match v with
 | .d (.sl _)=>a
 |_=>.no
def a3D(x:Operand)(st:St):Option Out:=some ⟨st.eval G x,tM (st.eval G x) (wC x),st⟩
def b5a(c a b:Operand)(st:St):Option Out:=
 match st.eval G c with
 | .d (.bool t)=>some ⟨if t then st.eval G a else st.eval G b,.no,st⟩
 |_=>none
def b1W(dst:Option Tmp)(e:TypeId)(st:St):Option Out:=
 match dst,kN P e with
 |some d,some cs=>if d<100000 then some ⟨.ptr d 0,.no,gK st d (.cells (cs.map .d))⟩ else none
 |some d,none=>
  match c3P P e with
  |some cs=>if d<100000 then some ⟨.ptr d 0,.no,gK st d (b4Z cs)⟩ else none
  |none=>none
 |_,_=>none
def d9H(dst:Option Tmp)(x:Operand)(st:St):Option Out:=
 match dst,wB (st.eval G x)with
 |some d,some cs=>if decide (d<100000)&&(cs.all λc=> !mentions d c) then some ⟨.ptr d 0,.no,gK st d (.cells cs)⟩ else none
 |_,_=>none
def a7r(fn:Fn)(first captured:Array Operand)(st:St):Option Out:=
 match fn with
 | .func f=>if first.isEmpty then some ⟨if captured.isEmpty then .fn f else .clo f (captured.toList.map (st.eval G)),.no,st⟩ else none
 |_=>none
def dJ(t:TypeId):Bool:=
 match P.underlying t with
 |some (.struct fs)=>fs.toList.all λf=>(P.info? f.type).isSome
 |_=>false
def a7s(t:TypeId)(parts:Array (Nat×Operand))(st:St):Option Out:=
 match c3Q P t,a0t G st parts.toList with
 |some z,some ps=>(b0i P t z ps).map λcs=>⟨.ag cs,.no,st⟩
 |_,_=>none
def a8W(t:TypeId)(parts:Array (Nat×Operand))(st:St):Option Out:=
 if dJ P t then
  match kN P t,a3d G st parts.toList with
  |some z,some ps=>(b9u P t z ps).map λcs=>⟨.d (.agg cs),.no,st⟩
  |_,_=>a7s P G t parts st
 else none
def jK(e:TypeId):Bool:=
 match P.info? e with
 |some i=>decide (0<i.size)&&(match i.zero with|some z=>z.cells.size==i.size|none=>false)
 |none=>false
def tN(t:TypeId)(len:Nat)(parts:Array (Nat×Operand))(st:St):Option Out:=
 match gR P t,a3d G st parts.toList with
 |some e,some ps=>
  if jK P e&&(ps.map (·.1)==List.range len)&&(ps.all λp=>p.2.cells.length==P.cellsOf e)&&decide (len*P.cellsOf e<=2 ^ 24) then
   some ⟨.d (.sl (ps.map λp=>p.2.cells)),.fresh e,st⟩
  else none
 |_,_=>none
def b2S(t:TypeId)(x:Operand)(st:St):Option Out:=
 match st.eval G x with
 | .ptr k off=>
  match getKey k st.H with
  |some (.cells cs)=>(b2R P t (cs.drop off)).map λy=>⟨y,tM y (.al (.c k off)),st⟩
  |_=>none
 | .ep cs=>(takeD P t cs).map λy=>⟨.d y,.no,st⟩
 |_=>none
def sU(t:TypeId)(a x:Operand)(st:St):Option Out:=
 match st.eval G a,wB (st.eval G x)with
 | .ptr k off,some ys=>
  match getKey k st.H with
  |some (.cells cs)=>
   if ys.length=P.cellsOf t/\P.cellsOf t≠0/\off+ys.length<=cs.length then
    some ⟨.cI [],.no,{st with H:=bU k (.cells (overwrite cs off ys)) st.H,own:=if (st.eval G x).cell then eO (.c k off) (tM (st.eval G x) (wC x)) st.own else dropKey k st.own}⟩
   else none
  |_=>none
 |_,_=>none
def wN(x:Operand)(st:St):Option Out:=
 match st.eval G x with
 | .ptr k off=>some ⟨.ptr k off,.no,st⟩
 | .ep cs=>some ⟨.ep cs,.no,st⟩
 | .fn f=>some ⟨.fn f,.no,st⟩
 | .clo f cs=>some ⟨.clo f cs,.no,st⟩
 |_=>none
def d4c(op:BinOp)(t:TypeId)(a b:D):Option D:=
 match a,b with
 | .bool x,.bool y=>
  match P.underlying t,op with
  |some .bool,.eql=>some (.bool (x==y))
  |some .bool,.neq=>some (.bool !(x==y))
  |_,_=>none
 | .agg xs,.agg ys=>
  match b9t P t with
  |some ds=>
   if a0b ds xs then
    match op,a0O xs ys with
    | .eql,some r=>some (.bool r)
    | .neq,some r=>some (.bool !r)
    |_,_=>none
   else none
  |none=>none
 |a,b=>d9G op a b
def c7I(op:BinOp)(t:TypeId)(x y:Operand)(st:St):Option Out:=
 match st.eval G x,st.eval G y with
 | .d a,.d b=>(d4c P op t a b).map λc=>⟨.d c,.no,st⟩
 |_,_=>none
def c1n:Operand->Bool
 | .const (.slice none 0 0)=>true
 |_=>false
def a1t(op:BinOp)(t:TypeId)(x:Operand)(st:St):Option Out:=
 match P.underlying t,op,st.eval G x with
 |some (.slice _),.eql,.d (.sl es)=>some ⟨if es.length=0 then .qF else .d (.bool false),.no,st⟩
 |some (.slice _),.neq,.d (.sl es)=>some ⟨if es.length=0 then .qF else .d (.bool true),.no,st⟩
 |some (.slice _),.eql,.d .aD=>some ⟨.qF,.no,st⟩
 |some (.slice _),.neq,.d .aD=>some ⟨.qF,.no,st⟩
 |_,_,_=>none
def b5b(op:BinOp)(t:TypeId)(x y:Operand)(st:St):Option Out:=if c1n y then a1t P G op t x st else c7I P G op t x y st
def vUn(op:UnOp)(x:Operand)(st:St):Option Out:=
 match st.eval G x with
 | .d a=>(c7H op a).map λc=>⟨.d c,.no,st⟩
 |_=>none
def yR:List (List D)->Option (List UInt8)
 |[]=>some []
 |[.int .u8 n]::l=>(yR l).map λbs=>UInt8.ofNat n.toNat::bs
 |_=>none
def d1m(e:TypeId):Bool:=
 match P.underlying e with
 |some (.int .u8)=>true
 |_=>false
def c9V(src dst:TypeId)(a:D):Option D:=
 match P.underlying src,P.underlying dst,a with
 |some _,some (.int k),.int _ n=>some (.int k (k.wrap n))
 |some _,some .string,.str s=>some (.str s)
 |some (.slice e),some .string,.sl es=>if d1m P e then(yR es).map .str else none
 |some (.slice e),some .string,.aD=>if d1m P e then some (.str []) else none
 |_,_,_=>none
def b5c(src dst:TypeId)(x:Operand)(st:St):Option Out:=
 match st.eval G x with
 | .d a=>(c9V P src dst a).map λc=>⟨.d c,.no,st⟩
 |_=>none
def b0j(dst:Option Tmp)(r:Option Operand)(st:St):Option Out:=
 match dst,r with
 |some d,none=>if d<100000 then some ⟨.mp d,.no,gK st d (.map [])⟩ else none
 |_,_=>none
def c3R(t:TypeId):Option D:=((P.info? t).bind (·.zero)).bind λz=>isD (ofConst z)
def mapOf(t:TypeId):Option (TypeId×TypeId):=
 match P.underlying t with
 |some (.map k e)=>(match P.underlying k with|some d=>if rN d then some (k,e) else none|none=>none)
 |_=>none
def uH(t:TypeId)(k:D):Bool:=
 match P.underlying t with
 |some d=>tB d k
 |none=>false
def a7t(t:TypeId)(m k:Operand)(ok:Bool)(st:St):Option Out:=
 match mapOf P t,st.eval G m,st.eval G k with
 |some (kt,e),.mp key,.d kk=>
  match getKey key st.H,c3R P e,uH P kt kk with
  |some (.map es),some z,true=>(findKeyD kk es).map λr=>⟨if ok then .cI [r.getD z,.bool r.isSome] else .d (r.getD z),.no,st⟩
  |_,_,_=>none
 |_,_,_=>none
def a1u(t:TypeId)(m k v:Operand)(st:St):Option Out:=
 match mapOf P t,st.eval G m,st.eval G k,st.eval G v with
 |some (kt,_),.mp key,.d kk,.d x=>
  match getKey key st.H,uH P kt kk with
  |some (.map es),true=>(a7p kk x es).map λes'=>⟨.cI [],.no,{st with H:=bU key (.map es') st.H}⟩
  |_,_=>none
 |_,_,_,_=>none
def a1v(x:Operand)(i:Nat)(st:St):Option Out:=
 match st.eval G x with
 | .cI ds=>(ds[i]?).map λy=>⟨.d y,.no,st⟩
 |_=>none
def a8X(t:TypeId)(x:Operand)(i:Nat)(st:St):Option Out:=
 match st.eval G x,aI P t i with
 | .d (.agg cs),some (off,u)=>(takeD P u (cs.drop off)).map λy=>⟨.d y,.no,st⟩
 |_,_=>none
def a8Y(t:TypeId)(x i:Operand)(st:St):Option Out:=
 match P.underlying t,st.eval G x,st.eval G i with
 |some .string,.d (.str s),.d n=>(idx n s.length).bind λj=>(s[j]?).map λb=>⟨.d (.int .u8 b.toNat),.no,st⟩
 |some (.array len e),.d (.agg cs),.d n=>(idx n len).bind λj=>(takeD P e (cs.drop (j*P.cellsOf e))).map λy=>⟨.d y,.no,st⟩
 |_,_,_=>none
def tO(t:TypeId)(x i:Operand)(st:St):Option Out:=
 match P.underlying t,st.eval G x,st.eval G i with
 |some (.slice e),.d (.sl es),.d n=>(idx n es.length).bind λj=>(es[j]?).bind λcs=>if cs.length=P.cellsOf e then some ⟨.ep cs,.no,st⟩ else none
 |some (.array len e),.ptr k off,.d n=>if P.cellsOf e=0 then none else(idx n len).map λj=>⟨.ptr k (off+j*P.cellsOf e),.no,st⟩
 |some (.array len e),.ep cs,.d n=>if P.cellsOf e=0 then none else(idx n len).map λj=>⟨.ep (cs.drop (j*P.cellsOf e)),.no,st⟩
 |_,_,_=>none
def tP(t:TypeId)(x:Operand)(i:Nat)(st:St):Option Out:=
 match aI P t i with
 |some (off,u)=>
  if P.cellsOf u=0 then none else
  match st.eval G x with
  | .ptr k o=>some ⟨.ptr k (o+off),.no,st⟩
  | .ep cs=>some ⟨.ep (cs.drop off),.no,st⟩
  |_=>none
 |none=>none
def a8Z(t:TypeId)(x:Operand)(lo hi mx:Option Operand)(st:St):Option Out:=
 match P.underlying t,st.eval G x,mx with
 |some .string,.d (.str s),none=>(hZ G st hi s.length s.length).bind λh=>(hZ G st lo 0 h).map λl=>⟨.d (.str ((s.take h).drop l)),.no,st⟩
 |some (.slice e),.d (.sl es),none=>
  if P.cellsOf e≠0/\(es.all λc=>c.length==P.cellsOf e)=true then
   (hZ G st hi es.length es.length).bind λh=>(hZ G st lo 0 h).map λl=>⟨.d (.sl ((es.take h).drop l)),.no,st⟩
  else none
 |some (.slice e),.d .aD,none=>if P.cellsOf e≠0 then(hZ G st hi 0 0).bind λh=>(hZ G st lo 0 h).map λ_=>⟨.d .aD,.no,st⟩ else none
 |some (.slice e),.d (.sl _),some m=>if P.cellsOf e≠0/\lo.isNone=true/\hZ G st hi 1 0=some 0/\hZ G st (some m) 1 0=some 0 then some ⟨.d .aD,.no,st⟩ else none
 |some (.slice e),.d .aD,some m=>if P.cellsOf e≠0/\lo.isNone=true/\hZ G st hi 1 0=some 0/\hZ G st (some m) 1 0=some 0 then some ⟨.d .aD,.no,st⟩ else none
 |_,_,_=>none
def c1o(dst:Option Tmp)(t:TypeId)(x:Operand)(st:St):Option Out:=
 match dst,P.underlying t,st.eval G x with
 |some d,some .string,.d (.str s)=>if d<100000 then some ⟨.it d,.no,gK st d (.iter s 0)⟩ else none
 |_,_,_=>none
def c9W(it:Operand)(isString:Bool)(st:St):Option Out:=
 match st.eval G it,isString with
 | .it k,true=>
  match getKey k st.H with
  |some (.iter s pos)=>
   if pos<s.length then
    some ⟨.cI [.bool true,.int .i64 pos,.int .i32 (Utf8.decode ⟨s.toArray⟩ pos).1],.no,{st with H:=bU k (.iter s (pos+(Utf8.decode ⟨s.toArray⟩ pos).2)) st.H}⟩
   else some ⟨.cI [.bool false],.no,st⟩
  |_=>none
 |_,_=>none
def d1n(t:TypeId)(x:Operand)(st:St):Option Out:=
 match P.underlying t,st.eval G x with
 |some .string,.d (.str s)=>some ⟨.d (.int .i64 s.length),.no,st⟩
 |some (.slice _),.d (.sl es)=>some ⟨.d (.int .i64 es.length),.no,st⟩
 |some (.slice _),.d .aD=>some ⟨.d (.int .i64 0),.no,st⟩
 |some (.map _ _),.mp k=>
  match getKey k st.H with
  |some (.map es)=>some ⟨.d (.int .i64 es.length),.no,st⟩
  |_=>none
 |_,_=>none
def jD(l:Loc):List (TypeId×List Loc)->Option (TypeId×List (TypeId×List Loc))
 |[]=>none
 |c::r=>if c.2.contains l then some (c.1,r) else(jD l r).map λ(e,r')=>(e,c::r')
def d9I:DV->Option (List (List D))
 | .d (.sl es)=>some es
 | .d .aD=>some []
 |_=>none
def c1p(t t':TypeId)(v:DV):Option (List (List D)):=
 if t=t' then d9I v else
 match P.underlying t',gR P t,v with
 |some .string,some e,.d (.str s)=>if d1m P e/\P.cellsOf e=1 then some (s.map λb=>[D.int .u8 b.toNat]) else none
 |_,_,_=>none
def a4j(t t':TypeId)(s x:Operand)(st:St):Option Out:=
 match gR P t,c1p P t t' (st.eval G x)with
 |some e,some ys=>
  if jK P e=true/\(ys.all λc=>c.length==P.cellsOf e)=true then
   match st.eval G s,s with
   | .d .aD,_=>if ys.length*(P.bytesOf e+1)<=140737488355328 then some ⟨.d (.sl ys),.fresh e,st⟩ else none
   | .d (.sl xs),.tmp i=>
    match jD (.t i) st.own with
    |some (e',eP)=>
     if e'=e/\(xs.all λc=>c.length==P.cellsOf e)=true/\(xs.length+ys.length)*(P.bytesOf e+1)<=140737488355328 then
      some ⟨.d (.sl (xs++ys)),.fresh e,{st with own:=eP}⟩
     else none
    |none=>none
   |_,_=>none
  else none
 |_,_=>none
def b4I(t:TypeId)(m k:Operand)(st:St):Option Out:=
 match mapOf P t,st.eval G m,st.eval G k with
 |some (kt,_),.mp key,.d kk=>
  match getKey key st.H,uH P kt kk with
  |some (.map es),true=>(a7q kk es).map λes'=>⟨.cI [],.no,{st with H:=bU key (.map es') st.H}⟩
  |_,_=>none
 |_,_,_=>none
def d1o(x y:Operand)(st:St):Option Out:=
 match st.eval G x,st.eval G y with
 | .d (.int k a),.d (.int _ b)=>some ⟨.d (.int k (if b>a then b else a)),.no,st⟩
 |_,_=>none
def d1p(x y:Operand)(st:St):Option Out:=
 match st.eval G x,st.eval G y with
 | .d (.int k a),.d (.int _ b)=>some ⟨.d (.int k (if b<a then b else a)),.no,st⟩
 |_,_=>none
def tQ(b:Builtin)(args:List Operand)(ts:List TypeId)(st:St):Option Out:=
 match b,args,ts with
 | .len,[x],[t]=>d1n P G t x st
 | .append,[s,x],[t,t']=>a4j P G t t' s x st
 | .delete,[m,k],t::_=>b4I P G t m k st
 | .max,[x,y],_=>d1o G x y st
 | .min,[x,y],_=>d1p G x y st
 |_,_,_=>none
def mV(o:Oper)(st:St):Option Out:=
 match o.op with
 | .move x=>a3D G x st
 | .assign x=>a3D G x st
 | .pick c a b=>b5a G c a b st
 | .alloc e=>b1W P o.dst e st
 | .box _ x=>d9H G o.dst x st
 | .build t parts=>a8W P G t parts st
 | .buildSlice t len parts=>tN P G t len parts st
 | .load t x=>b2S P G t x st
 | .store t a x=>sU P G t a x st
 | .nilCheck x=>wN G x st
 | .binOp op t x y _=>b5b P G op t x y st
 | .unOp op _ x=>vUn G op x st
 | .convert src dst x=>b5c P G src dst x st
 | .makeMap _ r=>b0j o.dst r st
 | .makeFunc fn first captured=>a7r G fn first captured st
 | .lookup t m k ok=>a7t P G t m k ok st
 | .mapUpdate t m k v=>a1u P G t m k v st
 | .extract x i=>a1v G x i st
 | .field t x i=>a8X P G t x i st
 | .index t x i=>a8Y P G t x i st
 | .indexAddr t x i=>tO P G t x i st
 | .fieldAddr t x i=>tP P G t x i st
 | .slice t x lo hi mx=>a8Z P G t x lo hi mx st
 | .range t x=>c1o P G o.dst t x st
 | .next it b=>c9W G it b st
 | .call {callee:=.builtin b,args,argTypes}=>tQ P G b args.toList argTypes.toList st
 |_=>none
def kB(o:Oper)(st:St):Option (FuncId×List D):=
 match o.op with
 | .call {callee:=.value x,args, .. }=>
  match st.eval G x,yQ (args.toList.map (st.eval G))with
  | .fn f,some ds=>some (f,ds)
  |_,_=>none
 |_=>none
def dK(o:Oper)(st:St):Option (FuncId×List DV):=
 match o.op with
 | .call {callee:=.value x,args, .. }=>
  match st.eval G x with
  | .fn f=>some (f,args.toList.map (st.eval G))
  | .clo f cs=>some (f,args.toList.map (st.eval G)++cs)
  |_=>none
 |_=>none
def a5Q:Operand->Option Loc
 | .tmp t=>some (.t t)
 |_=>none
def mM(o:Oper):List (Option Loc):=
 match o.op with
 | .call {args, .. }=>args.toList.map a5Q
 |_=>[]
def vK(ops:Array Oper)(tmps:List DV)(j:Nat):DV:=(((ops[j]?).bind (·.dst)).bind (tmps[·]?)).getD (.cI [])
def eJ(o:Oper)(ops:Array Oper)(tmps:List DV):Option Bool:=
 match o.guard with
 |none=>some true
 |some (j,want)=>
  match vK ops tmps j with
  | .undef=>none
  | .qF=>none
  | .d (.bool b)=>some (b==want)
  |_=>some false
end
end Go.VM
namespace Go.VM
open Go Go.RowKit
structure dH where
 f3y:Nat->Prop
 home:Nat->Nat
instance:CoeFun dH λ_=>Nat->Prop:=⟨dH.f3y⟩
inductive V (R:Nat->Nat->Prop) (w:World):Value->D->Prop
 |int (k:IntKind) (n:Int):V R w (.int k n) (.int k n)
 |bool (b:Bool):V R w (.bool b) (.bool b)
 |str (s:List UInt8):V R w (.string ⟨s.toArray⟩) (.str s)
 |aD (ao:Option Addr):V R w (.slice ao 0 0) .aD
 |emp (ao:Option Addr) (cap:Nat):V R w (.slice ao 0 cap) (.sl [])
 |sl (b o n cap size:Nat) (es:List (List D)) (f:Nat->Nat->Value):n=es.length->n<=cap->0<size->(∀e∈es,e.length=size)->
   (∀(i j:Nat),i<n->j<size->R b (o+i*size+j)/\w.cell? ⟨b,o+i*size+j,none⟩=some (f i j))->
   (∀(i j:Nat) (e:List D) (d:D),es[i]? =some e->e[j]? =some d->d.one=true)->
   (∀(i j:Nat) (e:List D) (d:D),es[i]? =some e->e[j]? =some d->V R w (f i j) d)->V R w (.slice (some ⟨b,o,none⟩) n cap) (.sl es)
 |agg (cs:Array Value) (ds:List D):cs.size=ds.length->(∀(i:Nat) (d:D),ds[i]? =some d->d.one=true)->(∀(i:Nat) (d:D),ds[i]? =some d->V R w (cs.getD i undef) d)->V R w (.agg cs) (.agg ds)
def Run(R:Nat->Nat->Prop)(w:World)(b o:Nat)(cs:List D):Prop:=
 ∀(j:Nat) (d:D),cs[j]? =some d->d.one=true/\R b (o+j)/\∃v,w.cell? ⟨b,o+j,none⟩=some v/\V R w v d
theorem b9x{v:Value}(h:c1m v=true):v=.pointer none:=by
 unfold c1m at h;split at h
 .rfl
 .cases h
inductive TV (R:Nat->Nat->Prop) (μ:Nat->Nat) (w:World):Value->DV->Prop
 |d (v:Value) (x:D):V R w v x->TV R μ w v (.d x)
 |undef (v:Value):TV R μ w v .undef
 |ptr (k off:Nat):TV R μ w (.pointer (some ⟨μ k,off,none⟩)) (.ptr k off)
 |ep (b o:Nat) (cs:List D):Run R w b o cs->TV R μ w (.pointer (some ⟨b,o,none⟩)) (.ep cs)
 |mp (k:Nat):TV R μ w (.map (some (μ k))) (.mp k)
 |it (k:Nat):TV R μ w (.pointer (some ⟨μ k,0,none⟩)) (.it k)
 |cI (vs:Array Value) (ds:List D):vs.size=ds.length->(∀(i:Nat) (d:D),ds[i]? =some d->V R w (vs.getD i Go.undef) d)->TV R μ w (.tuple vs) (.cI ds)
 |fn (f:FuncId):TV R μ w (.func (.func f) #[] #[]) (.fn f)
 |qF (b:Bool):TV R μ w (.bool b) .qF
 |zY (T:TypeId):TV R μ w (.pointer none) (.zY T)
 |clo (f:FuncId) (vs:Array Value) (cs:List DV):vs.size=cs.length->(∀(i:Nat) (c:DV),cs[i]? =some c->TV R μ w (vs.getD i Go.undef) c)->TV R μ w (.func (.func f) #[] vs) (.clo f cs)
 |ag (vs:Array Value) (cs:List DV):vs.size=cs.length->(∀i,i<cs.length->(vs.getD i Go.undef).oneCell'=true)->(∀(i:Nat) (c:DV),cs[i]? =some c->c.cell=true)->(∀(i:Nat) (c:DV),cs[i]? =some c->TV R μ w (vs.getD i Go.undef) c)->TV R μ w (.agg vs) (.ag cs)
def e5r(v:Value):Prop:=v=.slice none 0 0\/∃ao n cap,v=.slice ao n cap/\cap≠0
def a4k(T:TypeId)(cs:List DV):Prop:=∀T',DV.zY T'∈cs->T=T'
theorem a4k.c3S{T:TypeId}{cs:List DV}(h:cs.all b9v=true):a4k T cs:=λT' hm=>by have:=g0Z.1 h _ hm;cases this
def gL(R:Nat->Nat->Prop)(μ:Nat->Nat)(w:World)(b:Nat):bD->Prop
 | .cells cs=>∃vs T,w.heap[b]? =some (.cells vs T (0,0))/\vs.size=cs.length/\(∀(i:Nat) (d:DV),cs[i]? =some d->d.cell=true/\TV R μ w (vs.getD i undef) d)/\a4k T cs
 | .map es=>∃qG clock,w.heap[b]? =some (.map qG clock)/\qG.size=es.length/\∀(i:Nat) (k v:D),es[i]? =some (k,v)->V R w ((qG.getD i default).key) k/\V R w ((qG.getD i default).val) v
 | .iter s pos=>w.heap[b]? =some (.stringIter ⟨s.toArray⟩ pos)
 | .bld T u es=>∃v0 v1 T',w.heap[b]? =some (.cells #[v0,v1] T' (0,0))/\(u=false->T'=T/\v1=.slice none 0 0)/\v0=(if u then .pointer (some ⟨b,0,none⟩) else .pointer none)/\V R w v1 (.sl es)/\e5r v1
def bK:Value->Option Nat
 | .slice (some a) _ cap=>if cap=0 then none else some a.block
 |_=>none
def qO(P:Program)(base:dH)(R:Nat->Nat->Prop)(w:World)(e:TypeId)(v:Value):Prop:=
 (∃ao,v=.slice ao 0 0)\/
 ∃g n cap cur,v=.slice (some ⟨g,0,none⟩) n cap/\base g/\w.heap[g]? =some (.cells cur e (0,0))/\n<=cap/\cap<=maxLen/\cur.size=cap*P.cellsOf e/\∀off,n*P.cellsOf e<=off-> ¬R g off
def cP(a:Act)(w:World)(μ:Nat->Nat):Loc->Option Value
 | .t i=>a.tmps[i]?
 | .c k off=>w.cell? ⟨μ k,off,none⟩
structure a4l (P:Program) (base:dH) (R:Nat->Nat->Prop) (μ:Nat->Nat) (st:St) (a:Act) (w:World) (c:TypeId×List Loc) (v:Value):Prop where
 eC:∀l∈c.2,∀u,cP a w μ l=some u->u=v
 own:qO P base R w c.1 v
 keys:∀k o,getKey k st.H=some o->bK v≠some (μ k)
def a5h(v v':Value):Prop:=∀g,bK v=some g->bK v'≠some g
structure a1w (P:Program) (base:dH) (R:Nat->Nat->Prop) (μ:Nat->Nat) (st:St) (a:Act) (w:World) (vs:List Value):Prop where
 len:vs.length=st.own.length
 one:∀(i:Nat) (c:TypeId×List Loc) (v:Value),st.own[i]? =some c->vs[i]? =some v->a4l P base R μ st a w c v
 apart:vs.Pairwise a5h
def a8d(G:GT)(base:dH)(R:Nat->Nat->Prop)(w:World):Prop:=∀g cs,G g=some cs->Run R w g 0 cs/\ ¬base g/\∃arr T fr,w.heap[g]? =some (.cells arr T fr)/\arr.size=cs.length
structure Rel (P:Program) (G:GT) (bs:dH) (R:Nat->Nat->Prop) (μ:Nat->Nat) (st:St) (a:Act) (w:World):Prop where
 defers:a.defers=[]
 size:a.tmps.size=st.tmps.length
 tmps:∀(i:Nat) (v:Value) (d:DV),a.tmps[i]? =some v->st.tmps[i]? =some d->TV R μ w v d
 jR:∀k o,getKey k st.H=some o->bs (μ k)/\(∀off, ¬R (μ k) off)/\gL R μ w (μ k) o
 inj:∀k k' o o',getKey k st.H=some o->getKey k' st.H=some o'->μ k=μ k'->k=k'
 eC:∀c∈st.own,∀k off,Loc.c k off∈c.2->∃o,getKey k st.H=some o
 own:∃vs,a1w P bs R μ st a w vs
 vL:a8d G bs R w
 qP:∀b o,R b o->b<w.heap.size
 base:∀b,w.heap.size<=b->bs b
 pass:∀k,100000<=k->μ k=bs.home k
structure a1x (base:dH) (w w':World):Prop where
 os:w'.os=w.os
 tape:w'.tape=w.tape
 output:w'.output=w.output
 size:w.heap.size<=w'.heap.size
 block:∀k, ¬base k->w'.heap[k]? =w.heap[k]?
theorem a1x.refl(base:dH)(w:World):a1x base w w:=⟨rfl,rfl,rfl,g1m _,λ_ _=>rfl⟩
theorem a1x.trans{base:dH}{a b c:World}(h:a1x base a b)(k:a1x base b c):a1x base a c:=
 ⟨k.os.trans h.os,k.tape.trans h.tape,k.output.trans h.output,Nat.le_trans h.size k.size,λi hi=>(k.block i hi).trans (h.block i hi)⟩
theorem a1x.mono{base kS:dH}{w w':World}(h:a1x base w w')(hb:∀k,base k->kS k):a1x kS w w':=⟨h.os,h.tape,h.output,h.size,λk hk=>h.block k λhx=>hk (hb k hx)⟩
theorem a1x.drew{base:dH}{a w:World}(h:a1x base a w):a1x base a w.drew:=⟨h.os,h.tape,h.output,h.size,h.block⟩
theorem a1x.alloc{base:dH}{a w:World}(h:a1x base a w)(hB:∀b,w.heap.size<=b->base b)(o:Obj):a1x base a (w.alloc o):=
 h.trans ⟨rfl,rfl,rfl,by simp,λk hk=>by
  show(w.heap.push o)[k]? =_
  rw[Array.getElem?_push,if_neg λe=>hk (hB k (by omega))]⟩
abbrev a0u(n:Nat):dH:=⟨λk=>n<=k,λ_=>0⟩
theorem a1x.below{n:Nat}{w w':World}(h:a1x (a0u n) w w'):Below n w w':=⟨h.os,h.tape,h.output,h.size,λk hk=>h.block k (by simpa[a0u]using hk)⟩
theorem a1x.d4d{n:Nat}{w w':World}(h:Below n w w'):a1x (a0u n) w w':=⟨h.os,h.tape,h.output,h.size,λk hk=>h.block k (by simpa[a0u]using hk)⟩
structure Step (base:dH) (R:Nat->Nat->Prop) (w:World) (R':Nat->Nat->Prop) (w':World):Prop where
 below:a1x base w w'
 mono:∀b o,R b o->R' b o
 new:∀b o,R' b o-> ¬R b o->base b
 cells:∀b o,R b o->w'.cell? ⟨b,o,none⟩=w.cell? ⟨b,o,none⟩
theorem Step.refl(base:dH)(R:Nat->Nat->Prop)(w:World):Step base R w R w:=⟨a1x.refl _ _,λ_ _ h=>h,λ_ _ h h'=>absurd h h',λ_ _ _=>rfl⟩
theorem Step.trans{base:dH}{R R' R'':Nat->Nat->Prop}{w w' w'':World}(h:Step base R w R' w')(h':Step base R' w' R'' w''):Step base R w R'' w'':=
 ⟨h.below.trans h'.below,λb o hr=>h'.mono b o (h.mono b o hr),λb o hr hn=>by
  by_cases hm:R' b o
  .exact h.new b o hm hn
  .exact h'.new b o hr hm,λb o hr=>(h'.cells b o (h.mono b o hr)).trans (h.cells b o hr)⟩
def CS(P:Program)(G:GT)(f:FuncId)(ds:List D)(r:DV)(own:Option TypeId):Prop:=
 ∀(w:World) (R:Nat->Nat->Prop) (args:Array Value),a8d G (a0u w.heap.size) R w->(∀b o,R b o->b<w.heap.size)->args.size=ds.length->
  (∀(i:Nat) (d:D),ds[i]? =some d->V R w (args.getD i undef) d)->
  Calls P f args w λe w'=>∃v R',e=.returned v/\(∀μ,TV R' μ w' v r)/\Step (a0u w.heap.size) R w R' w'/\(∀b o,R' b o->b<w'.heap.size)/\
   (∀e,own=some e->qO P (a0u w.heap.size) R' w' e v)
def SW(P:Program)(G:GT)(c:Code)(st:St)(Q:Exit->St->Prop):Prop:=
 ∀base R μ a w,Rel P G base R μ st a w->c.wp P (λe a' w'=>∃st' R' μ',Q e st'/\Rel P G base R' μ' st' a' w'/\Step base R w R' w') a w
theorem V.step{R R':Nat->Nat->Prop}{w w':World}(hm:∀b o,R b o->R' b o)(hc:∀b o,R b o->w'.cell? ⟨b,o,none⟩=w.cell? ⟨b,o,none⟩){v:Value}{d:D}(h:V R w v d):V R' w' v d:=by
 induction h with
 |int k n=>exact .int k n
 |bool b=>exact .bool b
 |str s=>exact .str s
 |aD ao=>exact .aD ao
 |emp ao cap=>exact .emp ao cap
 |sl b o n cap size es f h1 h2 h3 h4 h5 h6 _ ih=>exact .sl b o n cap size es f h1 h2 h3 h4 (λi j hi hj=>⟨hm _ _ (h5 i j hi hj).1,(hc _ _ (h5 i j hi hj).1).trans (h5 i j hi hj).2⟩) h6 ih
 |agg cs ds h1 h2 _ ih=>exact .agg cs ds h1 h2 ih
theorem V.bN{base:dH}{R R':Nat->Nat->Prop}{w w':World}(hs:Step base R w R' w'){v:Value}{d:D}(h:V R w v d):V R' w' v d:=h.step hs.mono hs.cells
theorem Run.bN{base:dH}{R R':Nat->Nat->Prop}{w w':World}(hs:Step base R w R' w'){b o:Nat}{cs:List D}(h:Run R w b o cs):Run R' w' b o cs:=by intro j d hj;obtain⟨h1,h2,v,h3,h4⟩:=h j d hj;exact⟨h1,hs.mono _ _ h2,v,(hs.cells _ _ h2).trans h3,h4.bN hs⟩
theorem TV.bN{base:dH}{R R':Nat->Nat->Prop}{μ:Nat->Nat}{w w':World}(hs:Step base R w R' w'){v:Value}{d:DV}(h:TV R μ w v d):TV R' μ w' v d:=by
 induction h with
 |d v x h=>exact .d v x (h.bN hs)
 |undef v=>exact .undef v
 |ptr k off=>exact .ptr k off
 |ep b o cs h=>exact .ep b o cs (h.bN hs)
 |mp k=>exact .mp k
 |it k=>exact .it k
 |cI vs ds h1 h2=>exact .cI vs ds h1 λi d hi=>(h2 i d hi).bN hs
 |fn f=>exact .fn f
 |qF b=>exact .qF b
 |zY T=>exact .zY T
 |clo f vs cs h1 _ ih=>exact .clo f vs cs h1 ih
 |ag vs cs h1 h2 h3 _ ih=>exact .ag vs cs h1 h2 h3 ih
theorem tC{key:Nat}:∀ {cs:List DV},oT key cs=false->∀(i:Nat) (c:DV),cs[i]? =some c->mentions key c=false
 |[],_,i,c,h=>by simp at h
 |d::r,hm,i,c,h=>by
  simp only[oT,Bool.or_eq_false_iff]at hm;cases i with
  |zero=>simp at h;subst h;exact hm.1
  |succ i=>exact tC hm.2 i c (by simpa using h)
theorem TV.e3j{R:Nat->Nat->Prop}{μ μ':Nat->Nat}{w:World}{key:Nat}(hμ:∀k,k≠key->μ' k=μ k){v:Value}{d:DV}(h:TV R μ w v d)(hm:mentions key d=false):TV R μ' w v d:=by
 induction h with
 |d v x h=>exact .d v x h
 |undef v=>exact .undef v
 |ptr k off=>
  have:k≠key:=by simpa[mentions]using hm
  rw[<-hμ k this];exact .ptr k off
 |ep b o cs h=>exact .ep b o cs h
 |mp k=>
  have:k≠key:=by simpa[mentions]using hm
  rw[<-hμ k this];exact .mp k
 |it k=>
  have:k≠key:=by simpa[mentions]using hm
  rw[<-hμ k this];exact .it k
 |cI vs ds h1 h2=>exact .cI vs ds h1 h2
 |fn f=>exact .fn f
 |qF b=>exact .qF b
 |zY T=>exact .zY T
 |clo f vs cs h1 h2 ih=>simp only[mentions]at hm;exact .clo f vs cs h1 λi c hi=>ih i c hi (tC hm i c hi)
 |ag vs cs h1 h2 h3 h4 ih=>simp only[mentions]at hm;exact .ag vs cs h1 h2 h3 λi c hi=>ih i c hi (tC hm i c hi)
theorem a8d.bN{G:GT}{base:dH}{R R':Nat->Nat->Prop}{w w':World}(hs:Step base R w R' w')(h:a8d G base R w):a8d G base R' w':=λg cs hg=>by obtain⟨h1,h2,arr,T,fr,h3,h4⟩:=h g cs hg;exact⟨h1.bN hs,h2,arr,T,fr,by rw[hs.below.block g h2];exact h3,h4⟩
theorem a8d.up{G:GT}{base kS:dH}{R:Nat->Nat->Prop}{w:World}(h:a8d G base R w)(hb:∀k,kS k->base k):a8d G kS R w:=λg cs hg=>by obtain⟨h1,h2,h3⟩:=h g cs hg;exact⟨h1,λhx=>h2 (hb g hx),h3⟩
theorem V.b0k{R:Nat->Nat->Prop}{w:World}{v:Value}{d:D}(h:V R w v d)(h1:d.one=true):v.oneCell'=true:=by cases h<;>first|rfl|(simp[D.one]at h1)
theorem V.d1q{R:Nat->Nat->Prop}{w:World}{v:Value}{d:D}(h:V R w v d)(h1:d.one=true):v.cells=#[v]/\d.cells=[d]:=by cases h<;>first|exact⟨rfl,rfl⟩|(simp[D.one]at h1)
theorem V.cells{R:Nat->Nat->Prop}{w:World}{v:Value}{d:D}(h:V R w v d):v.cells.size=d.cells.length/\∀(i:Nat) (c:D),d.cells[i]? =some c->c.one=true/\V R w (v.cells.getD i undef) c:=by
 cases h with
 |agg cs ds h1 h2 h3=>exact⟨h1,λi c hi=>⟨h2 i c hi,h3 i c hi⟩⟩
 |int k n=>exact⟨rfl,λi c hi=>by cases i<;>simp[D.cells]at hi;subst hi;exact⟨rfl,.int k n⟩⟩
 |bool b=>exact⟨rfl,λi c hi=>by cases i<;>simp[D.cells]at hi;subst hi;exact⟨rfl,.bool b⟩⟩
 |str s=>exact⟨rfl,λi c hi=>by cases i<;>simp[D.cells]at hi;subst hi;exact⟨rfl,.str s⟩⟩
 |aD ao=>exact⟨rfl,λi c hi=>by cases i<;>simp[D.cells]at hi;subst hi;exact⟨rfl,.aD ao⟩⟩
 |emp ao cap=>exact⟨rfl,λi c hi=>by cases i<;>simp[D.cells]at hi;subst hi;exact⟨rfl,.emp ao cap⟩⟩
 |sl b o n cap size es f h1 h2 h3 h4 h5 h6 h7=>exact⟨rfl,λi c hi=>by cases i<;>simp[D.cells]at hi;subst hi;exact⟨rfl,.sl b o n cap size es f h1 h2 h3 h4 h5 h6 h7⟩⟩
end Go.VM
namespace Go.VM
open Go Go.RowKit
theorem a5i(k:Nat)(o:bD):∀H:List (Nat×bD),(getKey k H).isSome=true->getKey k (a1r k o H)=some o
 |[],h=>by simp[getKey]at h
 |(k',o')::r,h=>by
  unfold a1r;split
  .simp[getKey]
  .rename_i hk;simp only[getKey,hk,if_false]at h|-;exact a5i k o r h
theorem a8n{k k':Nat}(o:bD)(h:k≠k'):∀H:List (Nat×bD),getKey k' (a1r k o H)=getKey k' H
 |[]=>rfl
 |(k1,o1)::r=>by
  unfold a1r;split
  .rename_i h1;subst h1;simp[getKey,h]
  .simp[getKey,a8n o h r]
theorem a5j(k:Nat)(o:bD):∀H:List (Nat×bD),getKey k H=none->getKey k (oC k o H)=some o
 |[],_=>by simp[oC,getKey]
 |(k',o')::r,h=>by
  unfold oC;split
  .simp[getKey]
  .simp only[getKey]at h|-;split at h
   .cases h
   .rename_i hk;rw[if_neg hk];exact a5j k o r h
theorem zQ{k k':Nat}(o:bD)(h:k≠k'):∀H:List (Nat×bD),getKey k' (oC k o H)=getKey k' H
 |[]=>by simp[oC,getKey,h]
 |(k1,o1)::r=>by
  unfold oC;split
  .simp[getKey,h]
  .simp[getKey,zQ o h r]
theorem a9a(k:Nat)(o:bD)(H:List (Nat×bD)):getKey k (bU k o H)=some o:=by
 unfold bU;split
 .rename_i h;exact a5i k o H h
 .rename_i h;exact a5j k o H (by simpa using h)
theorem mA{k k':Nat}(o:bD)(h:k≠k')(H:List (Nat×bD)):getKey k' (bU k o H)=getKey k' H:=by
 unfold bU;split
 .exact a8n o h H
 .exact zQ o h H
theorem b2T{a b:Nat}(h:a≠b)(o o':bD):∀H:List (Nat×bD),oC a o (oC b o' H)=oC b o' (oC a o H)
 |[]=>by
  rcases Nat.lt_or_gt_of_ne h with h'|h'
  .simp[oC,h',Nat.not_lt.2 (Nat.le_of_lt h')]
  .simp[oC,h',Nat.not_lt.2 (Nat.le_of_lt h')]
 |(k,x)::r=>by
  by_cases h1:a<k<;>by_cases h2:b<k
  .rcases Nat.lt_or_gt_of_ne h with h'|h'
   .simp[oC,h1,h2,h',Nat.not_lt.2 (Nat.le_of_lt h')]
   .simp[oC,h1,h2,h',Nat.not_lt.2 (Nat.le_of_lt h')]
  .have: ¬b<a:=by omega
   simp[oC,h1,h2,this]
  .have: ¬a<b:=by omega
   simp[oC,h1,h2,this]
  .simp[oC,h1,h2,b2T h o o' r]
theorem c3T{a b:Nat}(h:a≠b)(o o':bD){H:List (Nat×bD)}(ha:getKey a H=none)(hb:getKey b H=none):bU a o (bU b o' H)=bU b o' (bU a o H):=by
 have e1:bU b o' H=oC b o' H:=by unfold bU;rw[hb];rfl
 have e2:bU a o H=oC a o H:=by unfold bU;rw[ha];rfl
 rw[e1,e2];unfold bU;rw[zQ o' (Ne.symm h),zQ o h,ha,hb];exact b2T h o o' H
theorem jA{k k':Nat}(o:bD)(H:List (Nat×bD)):getKey k' (bU k o H)=if k=k' then some o else getKey k' H:=by
 split
 .rename_i h;subst h;exact a9a _ _ _
 .rename_i h;exact mA o h H
section
variable {P:Program} {G:GT} {base:dH} {R R':Nat->Nat->Prop} {μ:Nat->Nat} {st:St} {a:Act} {w w':World}
theorem gL.lt{b:Nat}{o:bD}(h:gL R μ w b o):b<w.heap.size:=by
 cases o with
 |cells cs=>obtain⟨vs,T,h,_⟩:=h;exact(g1f.1 h).1
 |map es=>obtain⟨vs,T,h,_⟩:=h;exact(g1f.1 h).1
 |iter s pos=>exact(g1f.1 (show w.heap[b]? =_ from h)).1
 |bld T u es=>obtain⟨v0,v1,T',h,_⟩:=h;exact(g1f.1 h).1
theorem gL.bN(hs:Step base R w R' w'){b:Nat}(hb:w'.heap[b]? =w.heap[b]?){o:bD}(h:gL R μ w b o):gL R' μ w' b o:=by
 cases o with
 |cells cs=>obtain⟨vs,T,h1,h2,h3,h4⟩:=h;exact⟨vs,T,hb.trans h1,h2,λi d hi=>⟨(h3 i d hi).1,(h3 i d hi).2.bN hs⟩,h4⟩
 |map es=>obtain⟨vs,T,h1,h2,h3⟩:=h;exact⟨vs,T,hb.trans h1,h2,λi k v hi=>⟨(h3 i k v hi).1.bN hs,(h3 i k v hi).2.bN hs⟩⟩
 |iter s pos=>exact hb.trans h
 |bld T u es=>obtain⟨v0,v1,T',h1,h2,h3,h4,h5⟩:=h;exact⟨v0,v1,T',hb.trans h1,h2,h3,h4.bN hs,h5⟩
theorem a5k{e:TypeId}{v:Value}(h:qO P base R w e v){g:Nat}(hg:bK v=some g):
  ∃n cap cur,v=.slice (some ⟨g,0,none⟩) n cap/\base g/\w.heap[g]? =some (.cells cur e (0,0))/\n<=cap/\cap<=maxLen/\cur.size=cap*P.cellsOf e/\∀off,n*P.cellsOf e<=off-> ¬R g off:=by
 rcases h with⟨ao,rfl⟩|⟨g',n,cap,cur,rfl,h⟩
 .cases ao<;>simp[bK]at hg
 .by_cases hc:cap=0
  .simp[bK,hc]at hg
  .simp[bK,hc]at hg;subst hg;exact⟨n,cap,cur,rfl,h⟩
theorem qO.a2s{e:TypeId}{v:Value}(h:qO P base R w e v){g:Nat}(hg:bK v=some g):base g:=by obtain⟨n,cap,cur,_,h,_⟩:=a5k h hg;exact h
theorem qO.lt{e:TypeId}{v:Value}(h:qO P base R w e v){g:Nat}(hg:bK v=some g):g<w.heap.size:=by obtain⟨n,cap,cur,_,_,h,_⟩:=a5k h hg;exact(g1f.1 h).1
theorem qO.tR{e:TypeId}{v:Value}(h:qO P base R w e v)(hb:∀g,base g->g<w.heap.size->w'.heap[g]? =w.heap[g]?)(hr:∀g off,g<w.heap.size->R' g off->R g off):qO P base R' w' e v:=by
 rcases h with h|⟨g,n,cap,cur,h0,h1,h2,h3,h4,h5,h6⟩
 .exact .inl h
 .have hl:=(g1f.1 h2).1;exact .inr ⟨g,n,cap,cur,h0,h1,(hb g h1 hl).trans h2,h3,h4,h5,λoff ho gD=>h6 off ho (hr g off hl gD)⟩
theorem qO.c9X{e:TypeId}{v:Value}(h:qO P base R w e v)(hb:∀g,bK v=some g->w'.heap[g]? =w.heap[g]?)(hr:∀g off,bK v=some g->R' g off->R g off):qO P base R' w' e v:=by
 rcases h with h|⟨g,n,cap,cur,rfl,h1,h2,h3,h4,h5,h6⟩
 .exact .inl h
 .by_cases hc:cap=0
  .subst hc;have:n=0:=by omega
   subst this;exact .inl ⟨_,rfl⟩
  .have hs:bK (.slice (some ⟨g,0,none⟩) n cap)=some g:=by simp[bK,hc]
   exact .inr ⟨g,n,cap,cur,rfl,h1,(hb g hs).trans h2,h3,h4,h5,λoff ho gD=>h6 off ho (hr g off hs gD)⟩
theorem a8o{l:Loc}{dst:Option Tmp}{v:Value}(h:∀d,dst=some d->l≠ .t d):cP (a.put dst v) w μ l=cP a w μ l:=by
 cases dst with
 |none=>rfl
 |some d=>
  cases l with
  |t i=>have:d≠i:=λe=>h d rfl (by rw[e]);simp[cP,Act.put,Array.getElem?_setIfInBounds_ne this]
  |c k off=>rfl
theorem rG{l:Loc}{own:List (TypeId×List Loc)}{i:Nat}{c:TypeId×List Loc}(h:(cZ l own)[i]? =some c):∃c',own[i]? =some c'/\c.1=c'.1/\∀x,x∈c.2↔x∈c'.2/\x≠l:=by simp only[cZ,g1g,g0V]at h;obtain⟨c',h1,rfl⟩:=h;exact⟨c',h1,rfl,λx=>by simp⟩
theorem a0c{key:Nat}{own:List (TypeId×List Loc)}{i:Nat}{c:TypeId×List Loc}(h:(dropKey key own)[i]? =some c):∃c',own[i]? =some c'/\c.1=c'.1/\∀x,x∈c.2↔x∈c'.2/\x.a0a key=false:=by simp only[dropKey,g1g,g0V]at h;obtain⟨c',h1,rfl⟩:=h;exact⟨c',h1,rfl,λx=>by simp⟩
theorem xG{src dst:Loc}{own:List (TypeId×List Loc)}{i:Nat}{c:TypeId×List Loc}(h:(addAlias src dst own)[i]? =some c):∃c',own[i]? =some c'/\c.1=c'.1/\∀x,x∈c.2->x∈c'.2\/(x=dst/\src∈c'.2):=by
 simp only[addAlias,g1g,g0V]at h;obtain⟨c',h1,h2⟩:=h;refine⟨c',h1,?_⟩;split at h2
 .rename_i hc;subst h2;refine⟨rfl,λx hx=>?_⟩;simp at hx;rcases hx with rfl|hx
  .exact .inr ⟨rfl,by simpa using hc⟩
  .exact .inl hx
 .subst h2;exact⟨rfl,λx hx=>.inl hx⟩
def a5R(P:Program)(base:dH)(R:Nat->Nat->Prop)(μ:Nat->Nat)(st:St)(a:Act)(w:World)(v:Value):OA->Prop
 | .no=>True
 | .al l=>cP a w μ l=some v
 | .fresh e=>qO P base R w e v/\(∀k o,getKey k st.H=some o->bK v≠some (μ k))/\∃vs,a1w P base R μ st a w vs/\∀v'∈vs,a5h v v'/\a5h v' v
theorem a1w.act{a':Act}{w':World}{st':St}{dst:Loc}{v:Value}{act:OA}(hex:∃vs,a1w P base R μ st a w vs)(mN:st'.own=eO dst act st.own)(a3E:∀k o,getKey k st'.H=some o->∃o',getKey k st.H=some o')(eU:∀c∈st.own,∀l∈c.2,l≠dst->cP a' w' μ l=cP a w μ l)(hd:∀u,cP a' w' μ dst=some u->u=v)(hsl:∀e u,qO P base R w e u->(∀k o,getKey k st.H=some o->bK u≠some (μ k))->qO P base R' w' e u)(a0v:a5R P base R μ st a w v act):∃vs',a1w P base R' μ st' a' w' vs':=by
 have tR:∀(vs:List Value),a1w P base R μ st a w vs->∀(i:Nat) (c:TypeId×List Loc) (u:Value),(cZ dst st.own)[i]? =some c->vs[i]? =some u->a4l P base R' μ st' a' w' c u:=λvs h i c u hc hu=>by
  obtain⟨c',hc',he,hm⟩:=rG hc;have ho:=h.one i c' u hc' hu;refine⟨λl hl u' hu'=>?_,?_,λk o hk=>?_⟩
  .have:=(hm l).1 hl;exact ho.eC l this.1 u' ((eU c' (g1b hc') l this.1 this.2).symm.trans hu')
  .rw[he];exact hsl c'.1 u ho.own ho.keys
  .obtain⟨o',wD⟩:=a3E k o hk;exact ho.keys k o' wD
 cases act with
 |no=>obtain⟨vs,h⟩:=hex;exact⟨vs,by rw[mN];simpa[eO,cZ]using h.len,λi c u hc hu=>tR vs h i c u (by rw[mN]at hc;exact hc) hu,h.apart⟩
 |al l=>
  obtain⟨vs,h⟩:=hex;have h1:=h.one;by_cases hld:l=dst
  .subst hld;refine⟨vs,by rw[mN];simpa[eO]using h.len,λi c u hc hu=>?_,h.apart⟩;rw[mN]at hc;simp only[eO,if_true]at hc;have ho:=h1 i c u hc hu;refine⟨λl' hl' u' hu'=>?_,hsl c.1 u ho.own ho.keys,λk o hk=>by obtain⟨o',wD⟩:=a3E k o hk;exact ho.keys k o' wD⟩;by_cases e9P:l'=l
   .subst e9P;exact(hd u' hu').trans (ho.eC l' hl' v a0v)
   .exact ho.eC l' hl' u' ((eU c (g1b hc) l' hl' e9P).symm.trans hu')
  .refine⟨vs,by rw[mN];simpa[eO,hld,addAlias,cZ]using h.len,λi c u hc hu=>?_,h.apart⟩;rw[mN]at hc;simp only[eO,if_neg hld]at hc;obtain⟨c',hc',he,hm⟩:=xG hc;have ho:=tR vs h i c' u hc' hu;refine⟨λl' hl' u' hu'=>?_,by rw[he];exact ho.own,ho.keys⟩;rcases hm l' hl' with hx|⟨rfl,hx⟩
   .exact ho.eC l' hx u' hu'
   .obtain⟨c0,yI,_,hm0⟩:=rG hc';exact(hd u' hu').trans ((h1 i c0 u yI hu).eC l ((hm0 l).1 hx).1 v a0v)
 |fresh e=>
  obtain⟨ha1,ha2,vs,h,f3z⟩:=a0v;refine⟨v::vs,by rw[mN];simpa[eO,cZ]using h.len,λi c u hc hu=>?_,List.pairwise_cons.2 ⟨λv' hv'=>(f3z v' hv').1,h.apart⟩⟩;rw[mN]at hc;cases i with
  |zero=>simp[eO]at hc hu;subst hc hu;exact⟨λl hl u hu=>by simp at hl;subst hl;exact hd u hu,hsl e v ha1 ha2,λk o hk=>by obtain⟨o',wD⟩:=a3E k o hk;exact ha2 k o' wD⟩
  |succ i=>simp[eO]at hc hu;exact tR vs h i c u hc hu
theorem Rel.put{dst:Option Tmp}{v:Value}{dv:DV}{act:OA}(h:Rel P G base R μ st a w)(hv:TV R μ w v dv)(a0v:a5R P base R μ st a w v act):
  Rel P G base R μ (finish st dst dv act) (a.put dst v) w:=by
 cases dst with
 |none=>exact h
 |some d=>
  refine⟨h.defers,by simp[finish,Act.put,h.size],λi u x hu hx=>?_,h.jR,h.inj,λc hc k off hl=>?_,?_,h.vL,h.qP,h.base,h.pass⟩
  .simp only[finish,Act.put]at hu hx;by_cases hdi:d=i
   .subst hdi;have h1:d<st.tmps.length:=by
     by_cases aF:d<st.tmps.length
     .exact aF
     .have tS:(st.tmps.set d dv)[d]? =none:=List.getElem?_eq_none (by rw[List.length_set];exact Nat.le_of_not_lt aF);rw[tS]at hx;cases hx
    have h2:d<a.tmps.size:=by rw[h.size];exact h1
    simp[h1]at hx;simp[h2]at hu;subst hu hx;exact hv
   .rw[Array.getElem?_setIfInBounds_ne hdi]at hu;rw[List.getElem?_set_ne hdi]at hx;exact h.tmps i u x hu hx
  .simp only[finish]at hc;obtain⟨i,hi⟩:=g1n hc;cases act with
   |no=>obtain⟨c',hc',_,hm⟩:=rG hi;exact h.eC c' (g1b hc') k off ((hm _).1 hl).1
   |al l=>
    by_cases hld:l=.t d
    .simp only[eO,if_pos hld]at hi;exact h.eC c (g1b hi) k off hl
    .simp only[eO,if_neg hld]at hi;obtain⟨c',hc',_,hm⟩:=xG hi;rcases hm _ hl with hx|⟨hx,_⟩
     .obtain⟨c0,yI,_,hm0⟩:=rG hc';exact h.eC c0 (g1b yI) k off ((hm0 _).1 hx).1
     .cases hx
   |fresh e=>
    cases i with
    |zero=>simp[eO]at hi;subst hi;simp at hl
    |succ i=>simp[eO]at hi;obtain⟨c',hc',_,hm⟩:=rG hi;exact h.eC c' (g1b hc') k off ((hm _).1 hl).1
  .refine a1w.act (st':=finish st (some d) dv act) h.own rfl (λk o hk=>⟨o,hk⟩) (λc _ l _ hl=>a8o λd' hd'=>by cases hd';exact hl) (λu hu=>?_) (λe u hu _=>hu) a0v;simp only[cP,Act.put]at hu;by_cases aF:d<a.tmps.size
   .simp[aF]at hu;exact hu.symm
   .simp[aF]at hu
theorem a1w.step(h:Rel P G base R μ st a w){vs:List Value}(rO:a1w P base R μ st a w vs)(hb:∀k,k<w.heap.size->w'.heap[k]? =w.heap[k]?)(hold:∀b o,b<w.heap.size->R' b o->R b o):a1w P base R' μ st a w' vs:=by
 obtain⟨hl,h1,hap⟩:=rO;refine⟨hl,λi c v hc hv=>?_,hap⟩;have ho:=h1 i c v hc hv;refine⟨λl hl u hu=>?_,ho.own.tR (λg _ hg=>hb g hg) (λg off hg=>hold g off hg),ho.keys⟩;refine ho.eC l hl u ?_;cases l with
 |t i=>exact hu
 |c k off=>obtain⟨o,hk⟩:=h.eC c (g1b hc) k off hl;obtain⟨_,_,h3⟩:=h.jR k o hk;rw[show cP a w' μ (.c k off)=cP a w μ (.c k off) from World.cell?_of_block (hb _ h3.lt)]at hu;exact hu
theorem a1w.lt{vs:List Value}(rO:a1w P base R μ st a w vs){v:Value}(hv:v∈vs){g:Nat}(hg:bK v=some g):g<w.heap.size:=by
 obtain⟨i,hi⟩:=g1n hv;have vJ:i<st.own.length:=by rw[<-rO.len];exact(g0X.1 hi).1
 exact(rO.one i st.own[i] v (by simp[vJ]) hi).own.lt hg
theorem Rel.step(h:Rel P G base R μ st a w)(hs:Step base R w R' w')(hb:∀k,k<w.heap.size->w'.heap[k]? =w.heap[k]?)(hn:∀b o,R' b o-> ¬R b o->w.heap.size<=b)(hr:∀b o,R' b o->b<w'.heap.size):
  Rel P G base R' μ st a w':=by
 have hold:∀b o,b<w.heap.size->R' b o->R b o:=λb o hl gD=>by
  by_cases hx:R b o
  .exact hx
  .have:=hn b o gD hx;omega
 refine⟨h.defers,h.size,λi v d hv hd=>(h.tmps i v d hv hd).bN hs,λk o hk=>?_,h.inj,h.eC,?_,h.vL.bN hs,hr,λb hb=>h.base b (Nat.le_trans hs.below.size hb),h.pass⟩
 .obtain⟨h1,h2,h3⟩:=h.jR k o hk;exact⟨h1,λoff gD=>h2 off (hold _ _ h3.lt gD),h3.bN hs (hb _ h3.lt)⟩
 .obtain⟨vs,rO⟩:=h.own;exact⟨vs,rO.step h hb hold⟩
theorem TV.kill{v:Value}{d:DV}(key b:Nat)(h:TV R μ w v d):TV R (λk=>if k=key then b else μ k) w v (mX key d):=by
 unfold mX;by_cases hm:mentions key d=true
 .rw[if_pos hm];exact .undef _
 .rw[if_neg hm];exact h.e3j (key:=key) (λk hk=>by simp[hk]) (by simpa using hm)
theorem c1q{key:Nat}{d:DV}(h:d.cell=true):(mX key d).cell=true:=by
 unfold mX;split
 .rfl
 .exact h
theorem gL.kill{b:Nat}{o:bD}(key b':Nat)(h:gL R μ w b o):gL R (λk=>if k=key then b' else μ k) w b (a2q key o):=by
 cases o with
 |cells cs=>
  obtain⟨vs,T,h1,h2,h3,h4⟩:=h;refine⟨vs,T,h1,by simp[h2],λi d hi=>?_,λT' hm=>?_⟩
  .rw[g1g]at hi;obtain⟨d0,hd0,rfl⟩:=g0V.1 hi;exact⟨c1q (h3 i d0 hd0).1,(h3 i d0 hd0).2.kill key b'⟩
  .obtain⟨d0,hd0,he⟩:=List.mem_map.1 hm;unfold mX at he;split at he
   .cases he
   .subst he;exact h4 T' hd0
 |map es=>exact h
 |iter s p=>exact h
 |bld T u es=>exact h
theorem tT(key k:Nat):∀H:List (Nat×bD),getKey k (H.map λp=>(p.1,a2q key p.2))=(getKey k H).map (a2q key)
 |[]=>rfl
 |(k',o)::r=>by
  simp only[List.map_cons,getKey];split
  .rfl
  .exact tT key k r
theorem Step.alloc(R:Nat->Nat->Prop)(w:World)(o:Obj)(hb:∀b,w.heap.size<=b->base b)(hr:∀b o,R b o->b<w.heap.size):Step base R w R (w.alloc o):=
 ⟨(a1x.refl _ _).alloc hb o,λ_ _ h=>h,λ_ _ h h'=>absurd h h',λb off hR=>World.cell?_alloc_lt w o ⟨b,off,none⟩ (hr b off hR)⟩
theorem Rel.newObj(h:Rel P G base R μ st a w)(key:Nat)(f7D:key<100000)(o:bD)(ob:Obj)(hob:gL R (λk=>if k=key then w.heap.size else μ k) (w.alloc ob) w.heap.size o):
  Rel P G base R (λk=>if k=key then w.heap.size else μ k) (gK st key o) a (w.alloc ob)/\Step base R w R (w.alloc ob):=by
 have hs:Step base R w R (w.alloc ob):=Step.alloc R w ob h.base h.qP;have hold:∀k,k<w.heap.size->(w.alloc ob).heap[k]? =w.heap[k]? :=λk hk=>Below.heap_alloc w ob k hk;refine⟨⟨h.defers,by simp[gK,h.size],λi v d hv hd=>?_,λk o' hk=>?_,λk k' o1 o2 h1 h2 he=>?_,λc hc k off hl=>?_,?_,h.vL.bN hs,λb off hr=>by have:=h.qP b off hr;simp;omega,λb hb=>h.base b (by simp at hb;omega),λk hk=>by rw[if_neg (by omega)];exact h.pass k hk⟩,hs⟩
 .simp only[gK,g1g,g0V]at hd;obtain⟨d0,hd0,rfl⟩:=hd;exact((h.tmps i v d0 hv hd0).bN hs).kill key w.heap.size
 .simp only[gK,jA]at hk;by_cases wE:key=k
  .subst wE;simp at hk;subst hk;simp only[if_true];exact⟨h.base _ (g1m _),λoff hr=>by have:=h.qP _ _ hr;omega,hob⟩
  .rw[if_neg wE,tT]at hk;obtain⟨o0,ho0,rfl⟩:=g0V.1 hk;obtain⟨h1,h2,h3⟩:=h.jR k o0 ho0;simp only[if_neg (Ne.symm wE)];exact⟨h1,h2,(h3.bN hs (hold _ h3.lt)).kill key w.heap.size⟩
 .simp only[gK,jA]at h1 h2;by_cases hk1:key=k
  .by_cases hk2:key=k'
   .exact hk1.symm.trans hk2
   .subst hk1;rw[if_neg hk2,tT]at h2;obtain⟨o0,ho0,_⟩:=g0V.1 h2;obtain⟨_,_,h3⟩:=h.jR k' o0 ho0;have:=h3.lt;simp[Ne.symm hk2]at he;omega
  .rw[if_neg hk1,tT]at h1;obtain⟨o0,ho0,_⟩:=g0V.1 h1;obtain⟨_,_,h3⟩:=h.jR k o0 ho0;have aF:=h3.lt;by_cases hk2:key=k'
   .subst hk2;simp[Ne.symm hk1]at he;omega
   .rw[if_neg hk2,tT]at h2;obtain⟨o3,ho3,_⟩:=g0V.1 h2;simp only[if_neg (Ne.symm hk1),if_neg (Ne.symm hk2)]at he;exact h.inj k k' o0 o3 ho0 ho3 he
 .obtain⟨i,hi⟩:=g1n hc;simp only[gK]at hi;obtain⟨c',hc',_,hm⟩:=a0c hi;have:=(hm _).1 hl;obtain⟨o',wD⟩:=h.eC c' (g1b hc') k off this.1;simp only[gK,jA];split
  .exact⟨_,rfl⟩
  .rw[tT,wD];exact⟨_,rfl⟩
 .obtain⟨vs,hl,h1,hap⟩:=h.own;refine⟨vs,by simpa[gK,dropKey]using hl,λi c v hc hv=>?_,hap⟩;simp only[gK]at hc;obtain⟨c',hc',he,hm⟩:=a0c hc;have ho:=h1 i c' v hc' hv;refine⟨λl hl u hu=>?_,by rw[he];exact ho.own.tR (λg _ hg=>hold g hg) (λg off _ hr=>hr),λk o' hk=>?_⟩
  .have hx:=(hm l).1 hl;refine ho.eC l hx.1 u ?_;cases l with
   |t i=>exact hu
   |c k off=>
    have wE:k≠key:=by simpa[Loc.a0a]using hx.2
    obtain⟨o',wD⟩:=h.eC c' (g1b hc') k off hx.1;obtain⟨_,_,h3⟩:=h.jR k o' wD;simp only[cP,if_neg wE]at hu|-;rw[<-hu];exact(World.cell?_of_block (hold _ h3.lt)).symm
  .simp only[gK,jA]at hk;by_cases wE:key=k
   .subst wE;simp only[if_true];intro hsp;have:=ho.own.lt hsp;omega
   .rw[if_neg wE,tT]at hk;obtain⟨o0,ho0,_⟩:=g0V.1 hk;simp only[if_neg (Ne.symm wE)];exact ho.keys k o0 ho0
end
end Go.VM
namespace Go.VM
open Go Go.RowKit
section
variable {P:Program} {G:GT} {base:dH} {R:Nat->Nat->Prop} {μ:Nat->Nat} {st:St} {a:Act} {w:World}
theorem yS{v:Value}{x:D}(h:zZ v=some x):V R w v x/\x.one=true:=by
 unfold zZ at h;split at h<;>simp at h<;>subst h
 .exact⟨.int _ _,rfl⟩
 .exact⟨.bool _,rfl⟩
 .rename_i s;have:=V.str (R:=R) (w:=w) s.data.toList;simp only[Array.toArray_toList]at this;exact⟨this,rfl⟩
 .exact⟨.aD _,rfl⟩
theorem a5S:∀ {l:List Value} {ds:List D},yP l=some ds->l.length=ds.length/\∀(i:Nat) (d:D),ds[i]? =some d->V R w (l.getD i undef) d/\d.one=true
 |[],ds,h=>by simp[yP]at h;subst h;simp
 |v::l,ds,h=>by
  unfold yP at h;split at h<;>simp at h;rename_i x ds' h1 h2;subst h;obtain⟨h3,h4⟩:=a5S (l:=l) h2;refine⟨by simp[h3],λi d hi=>?_⟩;cases i with
  |zero=>simp at hi;subst hi;exact yS h1
  |succ i=>simp at hi;simpa using h4 i d hi
theorem b5d(v:Value):TV R μ w v (ofConst v):=by
 unfold ofConst;split
 .rename_i cs;split
  .rename_i ds h;obtain⟨h1,h2⟩:=a5S (R:=R) (w:=w) h;exact .d _ _ (.agg cs ds (by simpa using h1) (λi d hi=>(h2 i d hi).2) λi d hi=>by have:=(h2 i d hi).1;simpa[g0Y,List.getD]using this)
  .exact .undef _
 .split
  .rename_i x h;exact .d _ _ (yS h).1
  .exact .undef _
theorem Rel.eval(h:Rel P G base R μ st a w)(x:Operand):TV R μ w (a.eval x) (st.eval G x):=by
 cases x with
 |tmp t=>
  simp only[Act.eval,St.eval];by_cases ht:t<a.tmps.size
  .have h1:a.tmps[t]? =some (a.tmps.getD t undef):=by simp[ht]
   have h2:st.tmps[t]? =some (st.tmps.getD t (.cI [])):=by
    have:t<st.tmps.length:=by rw[<-h.size];exact ht
    simp[this,List.getD]
   exact h.tmps t _ _ h1 h2
  .have h3: ¬t<st.tmps.length:=by rw[<-h.size];exact ht
   have h1:a.tmps.getD t undef=.tuple #[]:=by simp[Array.getD,ht];rfl
   have h2:st.tmps.getD t (.cI [])=.cI []:=by simp[List.getD,List.getElem?_eq_none (Nat.le_of_not_lt h3)]
   rw[h1,h2];exact .cI _ _ rfl (by simp)
 |const v=>exact b5d v
 |global g=>
  simp only[Act.eval,St.eval];split
  .rename_i cs hg;exact .ep g 0 cs (h.vL g cs hg).1
  .exact .undef _
 |func f=>exact .fn f
theorem TV.a9b{v:Value}{d:D}(h:TV R μ w v (.d d)):V R w v d:=by cases h;assumption
theorem Rel.mF(h:Rel P G base R μ st a w){x:Operand}{d:D}(hx:st.eval G x=.d d):V R w (a.eval x) d:=by have:=h.eval x;rw[hx]at this;exact this.a9b
theorem Rel.tM(h:Rel P G base R μ st a w)(x:Operand):a5R P base R μ st a w (a.eval x) (tM (st.eval G x) (wC x)):=by
 unfold Go.VM.tM;split
 .rename_i es hx;cases x with
  |tmp s=>
   show a.tmps[s]? =some (a.tmps.getD s undef)
   by_cases hs:s<a.tmps.size
   .simp[hs]
   .have h3: ¬s<st.tmps.length:=by rw[<-h.size];exact hs
    simp[St.eval,List.getD,List.getElem?_eq_none (Nat.le_of_not_lt h3)]at hx
  |_=>trivial
 .trivial
def sV(P:Program)(G:GT)(o:Oper)(st:St)(out:Out):Prop:=
 ∀base R μ a w,Rel P G base R μ st a w->∃v w' R' μ',((execOp a.eval o).run P w=.ok (.value v) w'\/((execOp a.eval o).run P w=.ok .skip w'/\v=Go.undef))/\
  Rel P G base R' μ' out.st a w'/\TV R' μ' w' v out.v/\a5R P base R' μ' out.st a w' v out.act/\Step base R w R' w'
theorem bO{o:Oper}{v':DV}{act:OA}(h:∀base R μ a w,Rel P G base R μ st a w->∃v,(execOp a.eval o).run P w=.ok (.value v) w/\TV R μ w v v'/\a5R P base R μ st a w v act):sV P G o st ⟨v',act,st⟩:=by intro base R μ a w hr;obtain⟨v,h1,h2,h3⟩:=h base R μ a w hr;exact⟨v,w,R,μ,.inl h1,hr,h2,h3,.refl _ _ _⟩
theorem info_of_underlying{t:TypeId}{d:TypeDesc}(h:P.underlying t=some d):∃i,P.info? t=some i/\i.size=P.cellsOf t/\i.bytes=P.bytesOf t:=by
 unfold Program.underlying at h;cases hi:P.info? t with
 |none=>simp[hi]at h
 |some i=>exact⟨i,rfl,by simp[Program.cellsOf,hi],by simp[Program.bytesOf,hi]⟩
theorem run_sizeOf{t:TypeId}{d:TypeDesc}(h:P.underlying t=some d)(w:World):(sizeOf t).run P w=.ok (P.cellsOf t) w:=by obtain⟨i,h1,h2,_⟩:=info_of_underlying h;simp[sizeOf,typeInfo,h1,h2]
theorem sN{t:TypeId}{d:TypeDesc}(h:P.underlying t=some d)(w:World):(isAgg t).run P w=.ok (pV d) w:=by unfold isAgg;simp only[Sem.run_bind,run_underlying h,Result.andThen_ok];cases d<;>rfl
theorem oJ(b o j:Nat):(⟨b,o,none⟩:Addr).add j=⟨b,o+j,none⟩:=by unfold Addr.add;split<;>simp_all
def d9J(R:Nat->Nat->Prop)(w:World)(b o:Nat)(cs:List D):Prop:=∀(j:Nat) (d:D),cs[j]? =some d->d.one=true/\∃v,w.cell? ⟨b,o+j,none⟩=some v/\V R w v d
theorem Run.e5s{b o:Nat}{cs:List D}(h:Run R w b o cs):d9J R w b o cs:=λj d hj=>⟨(h j d hj).1,(h j d hj).2.2⟩
theorem Run.drop{b o:Nat}{cs:List D}(h:Run R w b o cs)(n:Nat):Run R w b (o+n) (cs.drop n):=λj d hj=>by
 rw[g1p]at hj;have:=h _ d hj
 rwa[<-Nat.add_assoc]at this
def b1Y(R:Nat->Nat->Prop)(μ:Nat->Nat)(w:World)(b o:Nat)(cs:List DV):Prop:=∀(j:Nat) (d:DV),cs[j]? =some d->d.cell=true/\∃v,w.cell? ⟨b,o+j,none⟩=some v/\TV R μ w v d
theorem b1Y.drop{b o:Nat}{cs:List DV}(h:b1Y R μ w b o cs)(n:Nat):b1Y R μ w b (o+n) (cs.drop n):=λj d hj=>by
 rw[g1p]at hj;have:=h _ d hj
 rwa[<-Nat.add_assoc]at this
theorem b1Y.a5T{b:Nat}{cs:List DV}(h:gL R μ w b (.cells cs)):b1Y R μ w b 0 cs:=λj d hj=>by
 obtain⟨vs,T,hh,jZ,rI,_⟩:=h;obtain⟨h1,h2⟩:=rI j d hj;have aF:j<vs.size:=by rw[jZ];exact(g0X.1 hj).1
 refine⟨h1,vs.getD j undef,?_,h2⟩;rw[Nat.zero_add,cell_of_row w _ _ vs T (0,0) hh];simp[aF]
theorem c9Z:∀ {l:List DV} {ds:List D},yQ l=some ds->l=ds.map .d
 |[],ds,h=>by simp[yQ]at h;subst h;rfl
 | .d x::l,ds,h=>by
  simp only[yQ]at h;split at h
  .rename_i ds' h';simp at h;subst h;rw[c9Z h']
   rfl
  .cases h
 | .undef::_,_,h| .ptr _ _::_,_,h| .ep _::_,_,h| .mp _::_,_,h| .it _::_,_,h| .cI _::_,_,h| .fn _::_,_,h| .zY _::_,_,h| .qF::_,_,h| .clo _ _::_,_,h| .ag _::_,_,h=>by simp[yQ]at h
theorem b1Y.e5s{b o:Nat}{ds:List D}(h:b1Y R μ w b o (ds.map .d)):d9J R w b o ds:=λj d hj=>by obtain⟨h1,v,h2,h3⟩:=h j (.d d) (by simp[hj]);exact⟨h1,v,h2,h3.a9b⟩
theorem a5l{t:TypeId}{b o:Nat}{cs:List D}{y:D}(cW:d9J R w b o cs)(ht:takeD P t cs=some y):
  ∃v,(loadVar t ⟨b,o,none⟩).run P w=.ok v w/\V R w v y/\(∀es,y=.sl es->w.cell? ⟨b,o,none⟩=some v):=by
 unfold takeD at ht;split at ht
 .rename_i d hd;split at ht
  .rename_i a9c;split at ht
   .rename_i hle;simp at ht;subst ht;have hc:∀j,j<P.cellsOf t->∃v,w.cell? ⟨b,o+j,none⟩=some v/\∀d,cs[j]? =some d->d.one=true/\V R w v d:=λj hj=>by
     have aF:j<cs.length:=by omega
     obtain⟨h1,v,h3,h4⟩:=cW j cs[j] (by simp[aF]);exact⟨v,h3,λd hd=>by simp[aF]at hd;subst hd;exact⟨h1,h4⟩⟩
    have hf:∀j,j<P.cellsOf t->w.cell? ((⟨b,o,none⟩:Addr).add j)=some ((w.cell? ⟨b,o+j,none⟩).getD undef):=λj hj=>by obtain⟨v,hv,_⟩:=hc j hj;rw[oJ,hv];rfl
    refine⟨.agg ((List.range (P.cellsOf t)).map λj=>(w.cell? ⟨b,o+j,none⟩).getD undef).toArray,?_,.agg _ _ (by simp;omega) (λi d hi=>?_) (λi d hi=>?_),by simp⟩
    .unfold loadVar;simp only[Sem.run_bind,sN hd,Result.andThen_ok,a9c,if_true,run_sizeOf hd,run_loadCells (P:=P) w _ _ _ hf,Sem.run_pure]
    .rw[List.getElem?_take]at hi;split at hi
     .rename_i aF;obtain⟨v,_,hv⟩:=hc i aF;exact(hv d hi).1
     .cases hi
    .rw[List.getElem?_take]at hi;split at hi
     .rename_i aF;obtain⟨v,hv,hvd⟩:=hc i aF;simp[g0Y,aF,hv];exact(hvd d hi).2
     .cases hi
   .cases ht
  .rename_i a9c;have h0:cs[0]? =some y:=by rw[<-List.head?_eq_getElem?];exact ht
   obtain⟨_,v,h3,h4⟩:=cW 0 y h0;refine⟨v,?_,h4,λ_ _=>by simpa using h3⟩;unfold loadVar;simp only[Nat.add_zero]at h3;simp only[Sem.run_bind,sN hd,Result.andThen_ok,a9c,Bool.false_eq_true,if_false,run_load,h3]
 .cases ht
theorem b2U{cs:List DV}{y:DV}(h:takeA cs=some y):(∃ds,yQ cs=some ds/\y=.d (.agg ds))\/(cs.all b9w=true/\y=.ag cs):=by
 unfold takeA at h;split at h
 .rename_i ds hd;cases h;exact .inl ⟨ds,hd,rfl⟩
 .split at h
  .rename_i ha;cases h;exact .inr ⟨ha,rfl⟩
  .cases h
theorem TV.b9w{v:Value}{c:DV}(h:TV R μ w v c)(hs:Go.VM.b9w c=true):v.oneCell'=true:=by
 cases h with
 |d v x h=>exact h.b0k hs
 |undef v=>cases hs
 |ptr k off=>rfl
 |ep b o cs h=>rfl
 |mp k=>rfl
 |it k=>cases hs
 |cI vs ds h1 h2=>cases hs
 |fn f=>rfl
 |qF b=>rfl
 |zY T=>cases hs
 |clo f vs cs h1 h2=>rfl
 |ag vs cs h1 h2 h3 h4=>cases hs
theorem yT{t:TypeId}{b o:Nat}{cs:List DV}{y:DV}(cW:b1Y R μ w b o cs)(ht:b2R P t cs=some y):
  ∃v,(loadVar t ⟨b,o,none⟩).run P w=.ok v w/\TV R μ w v y/\(∀es,y=.d (.sl es)->w.cell? ⟨b,o,none⟩=some v):=by
 unfold b2R at ht;split at ht
 .rename_i d hd;split at ht
  .rename_i a9c;split at ht
   .rename_i hle;rcases b2U ht with⟨ds,hds,rfl⟩|⟨dR,rfl⟩
    .have he:=c9Z hds;have hl:ds.length=P.cellsOf t:=by have:=congrArg List.length he;simp at this;omega
     have h0:d9J R w b o ds:=b1Y.e5s (μ:=μ) λj x hj=>cW j x (by
      rw[<-he,List.getElem?_take]at hj;split at hj
      .exact hj
      .cases hj)
     obtain⟨v,h1,h2,h3⟩:=a5l (P:=P) (t:=t) h0 (y:=.agg ds) (by unfold takeD;rw[hd];simp only[a9c,if_true];rw[if_pos (by omega), <- hl,List.take_length]);exact⟨v,h1,.d _ _ h2,λes he=>by cases he⟩
    .have hc:∀j,j<P.cellsOf t->∃v,w.cell? ⟨b,o+j,none⟩=some v/\∀d,(cs.take (P.cellsOf t))[j]? =some d->d.cell=true/\TV R μ w v d/\v.oneCell'=true:=λj hj=>by
      have aF:j<cs.length:=by omega
      obtain⟨h1,v,h3,h4⟩:=cW j cs[j] (by simp[aF]);refine⟨v,h3,λd hd=>?_⟩;rw[List.getElem?_take,if_pos hj,g1a aF]at hd;cases hd;refine⟨h1,h4,h4.b9w ?_⟩;exact g0Z.1 dR _ (g1b (i:=j) (by rw[List.getElem?_take,if_pos hj,g1a aF]))
     have hf:∀j,j<P.cellsOf t->w.cell? ((⟨b,o,none⟩:Addr).add j)=some ((w.cell? ⟨b,o+j,none⟩).getD undef):=λj hj=>by obtain⟨v,hv,_⟩:=hc j hj;rw[oJ,hv];rfl
     have hlen:(cs.take (P.cellsOf t)).length=P.cellsOf t:=by simp;omega
     have hat:∀(i:Nat) (d:DV),(cs.take (P.cellsOf t))[i]? =some d->d.cell=true/\TV R μ w ((((List.range (P.cellsOf t)).map λj=>(w.cell? ⟨b,o+j,none⟩).getD undef).toArray).getD i Go.undef) d/\((((List.range (P.cellsOf t)).map λj=>(w.cell? ⟨b,o+j,none⟩).getD undef).toArray).getD i Go.undef).oneCell'=true:=λi d hi=>by
      have aF:i<P.cellsOf t:=by rw[<-hlen];exact(g0X.1 hi).1
      obtain⟨v,hv,hvd⟩:=hc i aF;simp[g0Y,aF,hv];exact hvd d hi
     refine⟨.agg ((List.range (P.cellsOf t)).map λj=>(w.cell? ⟨b,o+j,none⟩).getD undef).toArray,?_,.ag _ _ (by simp;omega) (λi hi=>(hat i _ (g1a hi)).2.2) (λi d hi=>(hat i d hi).1) (λi d hi=>(hat i d hi).2.1),by simp⟩;unfold loadVar;simp only[Sem.run_bind,sN hd,Result.andThen_ok,a9c,if_true,run_sizeOf hd,run_loadCells (P:=P) w _ _ _ hf,Sem.run_pure]
   .cases ht
  .rename_i a9c;have h0:cs[0]? =some y:=by rw[<-List.head?_eq_getElem?];exact ht
   obtain⟨_,v,h3,h4⟩:=cW 0 y h0;refine⟨v,?_,h4,λ_ _=>by simpa using h3⟩;unfold loadVar;simp only[Nat.add_zero]at h3;simp only[Sem.run_bind,sN hd,Result.andThen_ok,a9c,Bool.false_eq_true,if_false,run_load,h3]
 .cases ht
theorem a4k.overwrite{T:TypeId}{cs ys:List DV}(h:a4k T cs)(hy:ys.all b9v=true)(off:Nat):a4k T (Go.VM.overwrite cs off ys):=λT' hm=>by
 unfold Go.VM.overwrite at hm;rw[List.mem_append,List.mem_append]at hm;rcases hm with(hm|hm)|hm
 .exact h T' (List.mem_of_mem_take hm)
 .exact a4k.c3S hy T' hm
 .exact h T' (List.mem_of_mem_drop hm)
theorem b2a{wF cs:List DV}(hc:Go.VM.wB (.ag wF)=some cs):wF.all b9v=true/\cs=wF:=by
 simp only[Go.VM.wB]at hc;split at hc
 .rename_i h;cases hc;exact⟨h,rfl⟩
 .cases hc
theorem b0l{d:DV}{cs:List DV}(hc:Go.VM.wB d=some cs):cs.all b9v=true:=by
 cases d with
 |d y=>cases hc;exact g0Z.2 λc hm=>by obtain⟨y,_,rfl⟩:=List.mem_map.1 hm;rfl
 |ag wF=>obtain⟨h,rfl⟩:=b2a hc;exact h
 |undef=>cases hc
 |it _=>cases hc
 |cI _=>cases hc
 |zY _=>cases hc
 |ptr _ _=>cases hc;rfl
 |ep _=>cases hc;rfl
 |mp _=>cases hc;rfl
 |fn _=>cases hc;rfl
 |qF=>cases hc;rfl
 |clo _ _=>cases hc;rfl
theorem a3F{v:Value}{d:DV}{cs:List DV}(h:TV R μ w v d)(hc:Go.VM.wB d=some cs):
  v.cells.size=cs.length/\∀(i:Nat) (c:DV),cs[i]? =some c->c.cell=true/\TV R μ w (v.cells.getD i undef) c/\(v.cells.getD i undef).oneCell'=true:=by
 have one:∀(u:Value) (c:DV),u.cells=#[u]->u.oneCell'=true->c.cell=true->TV R μ w u c->u.cells.size=[c].length/\∀(i:Nat) (c':DV),[c][i]? =some c'->c'.cell=true/\TV R μ w (u.cells.getD i undef) c'/\(u.cells.getD i undef).oneCell'=true:=λu c h1 h2 h3 h4=>by
  rw[h1];refine⟨rfl,λi c' hi=>?_⟩;cases i with
  |zero=>simp at hi;subst hi;exact⟨h3,h4,h2⟩
  |succ i=>simp at hi
 cases h with
 |d v x h=>simp only[Go.VM.wB,g1c]at hc;subst hc;obtain⟨h1,h2⟩:=h.cells;refine⟨by simp[h1],λi c hi=>?_⟩;rw[g1g]at hi;obtain⟨y,hy,rfl⟩:=g0V.1 hi;obtain⟨h3,h4⟩:=h2 i y hy;exact⟨h3,.d _ _ h4,h4.b0k h3⟩
 |undef v=>cases hc
 |it k=>cases hc
 |cI vs ds h1 h2=>cases hc
 |ptr k off=>cases hc;exact one _ _ rfl rfl rfl (.ptr k off)
 |ep b o cs h=>cases hc;exact one _ _ rfl rfl rfl (.ep b o cs h)
 |mp k=>cases hc;exact one _ _ rfl rfl rfl (.mp k)
 |fn f=>cases hc;exact one _ _ rfl rfl rfl (.fn f)
 |qF b=>cases hc;exact one _ _ rfl rfl rfl (.qF b)
 |zY T=>cases hc
 |clo f vs cs h1 h2=>cases hc;exact one _ _ rfl rfl rfl (.clo f vs cs h1 h2)
 |ag vs cs h1 h2 h3 h4=>obtain⟨_,rfl⟩:=b2a hc;exact⟨h1,λi c hi=>⟨h3 i c hi,h4 i c hi,h2 i (g0X.1 hi).1⟩⟩
end
end Go.VM
namespace Go.VM
open Go Go.RowKit
section
variable {P:Program} {G:GT} {st:St} {out:Out}
theorem c3U{o:Oper}{x:Operand}(ho:o.op=.move x\/o.op=.assign x)(h:a3D G x st=some out):sV P G o st out:=by simp only[a3D,g1c]at h;subst h;refine bO λbase R μ a w hr=>⟨a.eval x,?_,hr.eval x,hr.tM x⟩;rcases ho with ho|ho<;>simp[execOp,ho]
theorem V.xH{R:Nat->Nat->Prop}{w:World}{v:Value}{b:Bool}(h:V R w v (.bool b)):v=.bool b:=by cases h;rfl
theorem V.uI{R:Nat->Nat->Prop}{w:World}{v:Value}{k:IntKind}{n:Int}(h:V R w v (.int k n)):v=.int k n:=by cases h;rfl
theorem V.pW{R:Nat->Nat->Prop}{w:World}{v:Value}{s:List UInt8}(h:V R w v (.str s)):v=.string ⟨s.toArray⟩:=by cases h;rfl
theorem V.kT{R:Nat->Nat->Prop}{w:World}{v:Value}(h:V R w v .aD):∃ao,v=.slice ao 0 0:=by cases h;exact⟨_,rfl⟩
theorem V.a4m{R:Nat->Nat->Prop}{w:World}{v:Value}{ds:List D}(h:V R w v (.agg ds)):∃cs,v=.agg cs/\cs.size=ds.length/\(∀(i:Nat) (d:D),ds[i]? =some d->d.one=true/\V R w (cs.getD i undef) d):=by cases h;exact⟨_,rfl,by assumption,λi d hi=>⟨by rename_i h _;exact h i d hi,by rename_i h;exact h i d hi⟩⟩
theorem TV.c1r{R:Nat->Nat->Prop}{μ:Nat->Nat}{w:World}{v:Value}{k off:Nat}(h:TV R μ w v (.ptr k off)):v=.pointer (some ⟨μ k,off,none⟩):=by cases h;rfl
theorem TV.a5U{R:Nat->Nat->Prop}{μ:Nat->Nat}{w:World}{v:Value}{cs:List D}(h:TV R μ w v (.ep cs)):∃b o,v=.pointer (some ⟨b,o,none⟩)/\Run R w b o cs:=by cases h;exact⟨_,_,rfl,by assumption⟩
theorem TV.e5t{R:Nat->Nat->Prop}{μ:Nat->Nat}{w:World}{v:Value}{k:Nat}(h:TV R μ w v (.mp k)):v=.map (some (μ k)):=by cases h;rfl
theorem TV.e5u{R:Nat->Nat->Prop}{μ:Nat->Nat}{w:World}{v:Value}{k:Nat}(h:TV R μ w v (.it k)):v=.pointer (some ⟨μ k,0,none⟩):=by cases h;rfl
theorem TV.e5v{R:Nat->Nat->Prop}{μ:Nat->Nat}{w:World}{v:Value}{f:FuncId}(h:TV R μ w v (.fn f)):v=.func (.func f) #[] #[]:=by cases h;rfl
theorem TV.b0m{R:Nat->Nat->Prop}{μ:Nat->Nat}{w:World}{v:Value}{f:FuncId}{cs:List DV}(h:TV R μ w v (.clo f cs)):∃vs,v=.func (.func f) #[] vs/\vs.size=cs.length/\∀(i:Nat) (c:DV),cs[i]? =some c->TV R μ w (vs.getD i Go.undef) c:=by cases h;exact⟨_,rfl,by assumption,by assumption⟩
theorem TV.d9K{R:Nat->Nat->Prop}{μ:Nat->Nat}{w:World}{v:Value}{ds:List D}(h:TV R μ w v (.cI ds)):∃vs,v=.tuple vs/\vs.size=ds.length/\(∀(i:Nat) (d:D),ds[i]? =some d->V R w (vs.getD i Go.undef) d):=by cases h;exact⟨_,rfl,by assumption,by assumption⟩
section
variable {base:dH} {R:Nat->Nat->Prop} {μ:Nat->Nat} {a:Act} {w:World}
theorem Rel.pB(h:Rel P G base R μ st a w){x:Operand}{d:DV}(hx:st.eval G x=d):TV R μ w (a.eval x) d:=by rw[<-hx];exact h.eval x
theorem Rel.dU(h:Rel P G base R μ st a w){x:Operand}{k off:Nat}(hx:st.eval G x=.ptr k off):a.eval x=.pointer (some ⟨μ k,off,none⟩):=(h.pB hx).c1r
theorem Rel.xI(h:Rel P G base R μ st a w){x:Operand}{k:IntKind}{n:Int}(hx:st.eval G x=.d (.int k n)):a.eval x=.int k n:=(h.mF hx).uI
theorem Rel.a1z(h:Rel P G base R μ st a w){x:Operand}{b:Bool}(hx:st.eval G x=.d (.bool b)):a.eval x=.bool b:=(h.mF hx).xH
theorem Rel.d0a(h:Rel P G base R μ st a w){x:Operand}(hx:st.eval G x=.qF):∃b,a.eval x=.bool b:=by
 have:=h.pB hx;generalize a.eval x=v at this;cases this with
 |qF b=>exact⟨b,rfl⟩
theorem Rel.b0n(h:Rel P G base R μ st a w){x:Operand}{s:List UInt8}(hx:st.eval G x=.d (.str s)):a.eval x=.string ⟨s.toArray⟩:=(h.mF hx).pW
theorem Rel.a9d(h:Rel P G base R μ st a w){x:Operand}{k:Nat}(hx:st.eval G x=.mp k):a.eval x=.map (some (μ k)):=(h.pB hx).e5t
theorem Rel.d4e(h:Rel P G base R μ st a w){x:Operand}{k:Nat}(hx:st.eval G x=.it k):a.eval x=.pointer (some ⟨μ k,0,none⟩):=(h.pB hx).e5u
theorem Rel.b5e(h:Rel P G base R μ st a w){x:Operand}{f:FuncId}(hx:st.eval G x=.fn f):a.eval x=.func (.func f) #[] #[]:=(h.pB hx).e5v
end
theorem d4f{o:Oper}{c x y:Operand}(ho:o.op=.pick c x y)(h:b5a G c x y st=some out):sV P G o st out:=by
 unfold b5a at h;split at h<;>simp at h;rename_i t hc;subst h;refine bO λbase R μ a w hr=>⟨if t then a.eval x else a.eval y,?_,?_,trivial⟩
 .simp[execOp,ho,hr.a1z hc,asBool]
 .cases t
  .exact hr.eval y
  .exact hr.eval x
theorem c3V{o:Oper}{t:TypeId}{x:Operand}(ho:o.op=.load t x)(h:b2S P G t x st=some out):sV P G o st out:=by
 unfold b2S at h;split at h
 .rename_i k off hx;split at h
  .rename_i cs hk;simp only[g0V]at h;obtain⟨y,hy,rfl⟩:=h;refine bO λbase R μ a w hr=>?_;obtain⟨_,_,hob⟩:=hr.jR k _ hk;have cW:=(b1Y.a5T hob).drop off;rw[Nat.zero_add]at cW;obtain⟨v,h1,h2,h3⟩:=yT (P:=P) cW hy;refine⟨v,?_,h2,?_⟩
   .simp[execOp,ho,hr.dU hx,Instr.loadAt,Instr.sureAddr,h1]
   .unfold tM;split
    .rename_i es;exact h3 es rfl
    .trivial
  .cases h
 .rename_i cs hx;simp only[g0V]at h;obtain⟨y,hy,rfl⟩:=h;refine bO λbase R μ a w hr=>?_;obtain⟨b,off,he,cW⟩:=(hr.pB hx).a5U;obtain⟨v,h1,h2,h3⟩:=a5l (P:=P) cW.e5s hy;exact⟨v,by simp[execOp,ho,he,Instr.loadAt,Instr.sureAddr,h1],.d _ _ h2,trivial⟩
 .cases h
theorem c1s{o:Oper}{x:Operand}(ho:o.op=.nilCheck x)(h:wN G x st=some out):sV P G o st out:=by
 unfold wN at h;split at h<;>simp at h<;>subst h
 .rename_i k off hx;exact bO λbase R μ a w hr=>⟨a.eval x,by simp[execOp,ho,hr.dU hx],hr.pB hx,trivial⟩
 .rename_i cs hx;refine bO λbase R μ a w hr=>⟨a.eval x,?_,hr.pB hx,trivial⟩;obtain⟨b,off,he,cW⟩:=(hr.pB hx).a5U;simp[execOp,ho,he]
 .rename_i f hx;exact bO λbase R μ a w hr=>⟨a.eval x,by simp[execOp,ho,hr.b5e hx],hr.pB hx,trivial⟩
 .rename_i f cs hx;refine bO λbase R μ a w hr=>⟨a.eval x,?_,hr.pB hx,trivial⟩;obtain⟨vs,he,_⟩:=(hr.pB hx).b0m;simp[execOp,ho,he]
theorem e5w{o:Oper}{op:UnOp}{t:TypeId}{x:Operand}(ho:o.op=.unOp op t x)(h:vUn G op x st=some out):sV P G o st out:=by
 unfold vUn at h;split at h
 .rename_i y hx;simp only[g0V]at h;obtain⟨c,hc,rfl⟩:=h;unfold c7H at hc;split at hc<;>simp only[g1c,reduceCtorEq]at hc<;>subst hc
  .rename_i k n;exact bO λbase R μ a w hr=>⟨.int k (k.wrap (0-n)),by simp[execOp,ho,hr.xI hx,Op.unary,Op.intArith],.d _ _ (.int _ _),trivial⟩
  .rename_i b;exact bO λbase R μ a w hr=>⟨.bool !b,by simp[execOp,ho,hr.a1z hx,Op.unary],.d _ _ (.bool _),trivial⟩
 .cases h
theorem c3W{o:Oper}{x:Operand}{i:Nat}(ho:o.op=.extract x i)(h:a1v G x i st=some out):sV P G o st out:=by
 unfold a1v at h;split at h
 .rename_i ds hx;simp only[g0V]at h;obtain⟨y,hy,rfl⟩:=h;refine bO λbase R μ a w hr=>?_;obtain⟨vs,he,jZ,hv⟩:=(hr.pB hx).d9K;have aF:i<vs.size:=by rw[jZ];exact(g0X.1 hy).1
  exact⟨vs.getD i undef,by simp[execOp,ho,he,Instr.extract,aF],.d _ _ (hv i y hy),trivial⟩
 .cases h
theorem xJ{t:TypeId}{i off:Nat}{u:TypeId}(h:aI P t i=some (off,u)):∃fs f,P.underlying t=some (.struct fs)/\fs[i]? =some f/\f.offset=off/\f.type=u:=by
 unfold aI at h;split at h
 .rename_i fs hfs;simp only[g0V]at h;obtain⟨f,hf,he⟩:=h;simp at he;exact⟨fs,f,hfs,hf,he.1,he.2⟩
 .cases h
theorem c3X{R:Nat->Nat->Prop}{w:World}{u:TypeId}{cs:Array Value}{ds:List D}{off:Nat}{y:D}(jZ:cs.size=ds.length)(hv:∀(i:Nat) (d:D),ds[i]? =some d->d.one=true/\V R w (cs.getD i undef) d)(ht:takeD P u (ds.drop off)=some y):∃v,(part u cs off).run P w=.ok v w/\V R w v y:=by
 unfold takeD at ht;split at ht
 .rename_i d hd;split at ht
  .rename_i a9c;split at ht
   .rename_i hle;simp at ht;subst ht;rw[List.length_drop]at hle;by_cases h0:P.cellsOf u=0
    .refine⟨.agg (cs.extract off (off+P.cellsOf u)),?_,?_⟩
     .unfold part;simp only[Sem.run_bind,sN hd,Result.andThen_ok,a9c,if_true,run_sizeOf hd,Sem.run_pure]
     .rw[h0];exact .agg _ _ (by simp;omega) (by simp) (by simp)
    .refine⟨.agg (cs.extract off (off+P.cellsOf u)),?_,.agg _ _ (by simp;omega) (λi d hi=>?_) (λi d hi=>?_)⟩
     .unfold part;simp only[Sem.run_bind,sN hd,Result.andThen_ok,a9c,if_true,run_sizeOf hd,Sem.run_pure]
     .rw[List.getElem?_take]at hi;split at hi
      .rw[g1p]at hi;exact(hv _ d hi).1
      .cases hi
     .rw[List.getElem?_take]at hi;split at hi
      .rename_i aF;rw[g1p]at hi;have:=(hv _ d hi).2;have a5A:off+i<cs.size:=by rw[jZ];exact(g0X.1 hi).1
       have hge:(cs.extract off (off+P.cellsOf u)).getD i undef=cs.getD (off+i) undef:=by
        simp[g0Y,Array.getElem?_extract,a5A];rw[if_pos (by omega)]
        rfl
       rw[hge];exact this
      .cases hi
   .cases ht
  .rename_i a9c;have h0:ds[off]? =some y:=by rw[List.head?_eq_getElem?,g1p]at ht;simpa using ht
   have aF:off<cs.size:=by rw[jZ];exact(g0X.1 h0).1
   refine⟨cs.getD off undef,?_,(hv off y h0).2⟩;unfold part;simp only[Sem.run_bind,sN hd,Result.andThen_ok,a9c,Bool.false_eq_true,if_false];simp[aF]
 .cases ht
theorem d1r{o:Oper}{t:TypeId}{x:Operand}{i:Nat}(ho:o.op=.field t x i)(h:a8X P G t x i st=some out):sV P G o st out:=by
 unfold a8X at h;split at h
 .rename_i cs off u hx hf;simp only[g0V]at h;obtain⟨y,hy,rfl⟩:=h;obtain⟨fs,f,h1,h2,rfl,rfl⟩:=xJ hf;refine bO λbase R μ a w hr=>?_;obtain⟨vs,he,jZ,hv⟩:=(hr.mF hx).a4m;obtain⟨v,hp,hvy⟩:=c3X (P:=P) jZ hv hy;exact⟨v,by simp[execOp,ho,he,Instr.field,run_underlying h1,h2,asAgg,hp],.d _ _ hvy,trivial⟩
 .cases h
theorem b5f{n:D}{m j:Nat}(h:idx n m=some j):∃k i,n=.int k i/\0<=i/\i<m/\j=i.toNat/\j<m:=by
 unfold idx at h;split at h
 .rename_i k i;split at h
  .rename_i hi;simp at h;exact⟨k,i,rfl,hi.1,hi.2,h.symm,by omega⟩
  .cases h
 .cases h
theorem d1s{o:Oper}{t:TypeId}{x i:Operand}(ho:o.op=.index t x i)(h:a8Y P G t x i st=some out):sV P G o st out:=by
 unfold a8Y at h;split at h
 .rename_i s n hu hx hi;simp only[g1k,g0V]at h;obtain⟨j,hj,b,hb,rfl⟩:=h;obtain⟨k,m,rfl,h0,h1,rfl,_⟩:=b5f hj;refine bO λbase R μ a w hr=>⟨.int .u8 b.toNat,?_,.d _ _ (.int _ _),trivial⟩;have hg:(⟨s.toArray⟩:ByteArray)[m.toNat]? =some b:=by
   have hl:m.toNat<s.length:=by omega
   have:(⟨s.toArray⟩:ByteArray)[m.toNat]? =s[m.toNat]? :=by simp only[getElem?_def,ByteArray.size,ByteArray.getElem_eq_getElem_data];simp
   rw[this];exact hb
  simp[execOp,ho,hr.b0n hx,hr.xI hi,Instr.index,run_underlying hu,asIntOf,h0,hg]
 .rename_i len e cs n hu hx hi;simp only[g1k,g0V]at h;obtain⟨j,hj,y,hy,rfl⟩:=h;obtain⟨k,m,rfl,h0,h1,rfl,_⟩:=b5f hj;refine bO λbase R μ a w hr=>?_;obtain⟨vs,he,jZ,hv⟩:=(hr.mF hx).a4m;obtain⟨v,hp,hvy⟩:=c3X (P:=P) jZ hv hy;refine⟨v,?_,.d _ _ hvy,trivial⟩;have hd:∃d,P.underlying e=some d:=by
   unfold takeD at hy;split at hy
   .rename_i d hd;exact⟨d,hd⟩
   .cases hy
  obtain⟨d,hd⟩:=hd;simp[execOp,ho,he,hr.xI hi,Instr.index,run_underlying hu,asIntOf,h0,h1,run_sizeOf hd,hp]
 .cases h
end
end Go.VM
namespace Go.VM
open Go Go.RowKit
section
variable {P:Program} {G:GT} {st:St} {out:Out}
variable {base:dH} {R:Nat->Nat->Prop} {μ:Nat->Nat} {a:Act} {w:World}
theorem d0b(x y:List UInt8):((⟨x.toArray⟩:ByteArray)==⟨y.toArray⟩)=(x==y):=by rw[beq_toListBytes,ByteArray.toList_mk,ByteArray.toList_mk]
theorem d4g{op:BinOp}{t:TypeId}{x y:Operand}{p q c:D}{u v:Value}(hu:V R w u p)(hv:V R w v q)(h:d9G op p q=some c):
  ∃r,(do eqGuard op t x y u v;binOp op t u v:Sem Value).run P w=.ok r w/\V R w r c:=by
 unfold d9G at h;split at h
 .rename_i k m k' n;obtain rfl:=hu.uI;obtain rfl:=hv.uI;split at h
  .cases h
  .rename_i hk;simp only[ne_eq,Decidable.not_not]at hk;subst hk;have hg:∀o,(eqGuard o t x y (.int k m) (.int k n)).run P w=.ok () w:=λo=>by cases o<;>simp[eqGuard]
   cases op<;>simp only[g1c,reduceCtorEq]at h
   case quo=>
    split at h
    .cases h
    .rename_i hz;simp only[g1c]at h;subst h;exact⟨_,by simp only[Sem.run_bind,hg,Result.andThen_ok];simp[binOp,Op.intDiv,hz],.int _ _⟩
   case rem=>
    split at h
    .cases h
    .rename_i hz;simp only[g1c]at h;subst h;exact⟨_,by simp only[Sem.run_bind,hg,Result.andThen_ok];simp[binOp,Op.intDiv,hz],.int _ _⟩
   all_goals subst h
   case add=>exact⟨_,by simp only[Sem.run_bind,hg,Result.andThen_ok];simp[binOp,Op.intArith],.int _ _⟩
   case sub=>exact⟨_,by simp only[Sem.run_bind,hg,Result.andThen_ok];simp[binOp,Op.intArith],.int _ _⟩
   case mul=>exact⟨_,by simp only[Sem.run_bind,hg,Result.andThen_ok];simp[binOp,Op.intArith],.int _ _⟩
   all_goals exact⟨_,by simp only[Sem.run_bind,hg,Result.andThen_ok];simp only[binOp,ne_eq,not_true_eq_false,if_false,Op.intCmp,Sem.run_pure],.bool _⟩
 .rename_i m n;obtain rfl:=hu.pW;obtain rfl:=hv.pW;have hg:∀o,(eqGuard o t x y (.string ⟨m.toArray⟩) (.string ⟨n.toArray⟩)).run P w=.ok () w:=λo=>by cases o<;>simp[eqGuard]
  cases op<;>simp only[g1c,reduceCtorEq]at h
  case add=>
   split at h
   .rename_i hle;simp only[g1c]at h;subst h;refine⟨.string ⟨(m++n).toArray⟩,?_,.str _⟩;have hb:(⟨m.toArray⟩:ByteArray)++⟨n.toArray⟩=⟨(m++n).toArray⟩:=by apply ByteArray.ext;simp[ByteArray.data_append]
    have hs: ¬(((⟨m.toArray⟩:ByteArray).size+(⟨n.toArray⟩:ByteArray).size:Nat):Int)>IntKind.i64.max:=by
     show ¬((m.toArray.size+n.toArray.size:Nat):Int)>9223372036854775807
     simp only[List.size_toArray];omega
    simp only[Sem.run_bind,hg,Result.andThen_ok];simp only[binOp,Op.stringOp,if_neg hs,Sem.run_pure,hb]
   .cases h
  all_goals subst h
  all_goals exact⟨_,by simp only[Sem.run_bind,hg,Result.andThen_ok];simp only[binOp,Op.stringOp,Sem.run_pure,ByteArray.toList_mk],.bool _⟩
 .cases h
theorem d1t{d:TypeDesc}{t:TypeId}{p q:D}{u v:Value}{r:Bool}(n:Nat)(ht:P.underlying t=some d)(hd:rN d=true)(hu:V R w u p)(hv:V R w v q)(h:a1s p q=some r)(hk:uH P t p=true):(Op.equalIn (n+1) t u v).run P w=.ok r w:=by
 unfold a1s at h;split at h
 .rename_i k m k' n';obtain rfl:=hu.uI;obtain rfl:=hv.uI;split at h<;>simp at h;rename_i wE;subst wE h;unfold uH at hk;rw[ht]at hk;cases d<;>simp[tB]at hk;exact run_equalIn_int w n t k _ m n' ht
 .obtain rfl:=hu.pW;obtain rfl:=hv.pW;simp at h;subst h;unfold uH at hk;rw[ht]at hk;cases d<;>simp[tB]at hk;rw[run_equalIn_string w n t _ _ ht,ByteArray.toList_mk,ByteArray.toList_mk]
 .obtain rfl:=hu.xH;obtain rfl:=hv.xH;simp at h;subst h;unfold uH at hk;rw[ht]at hk;cases d<;>simp[tB]at hk;exact run_equalIn_bool w n t _ _ ht
 .cases h
theorem qL{t:TypeId}(h:(P.info? t).isSome=true)(w:World):(sizeOf t).run P w=.ok (P.cellsOf t) w:=by
 cases hi:P.info? t with
 |none=>simp[hi]at h
 |some i=>simp[sizeOf,typeInfo,hi,Program.cellsOf]
theorem a0x(w:World):∀(fs:List Field),(∀f∈fs,(P.info? f.type).isSome=true)->
  (fs.mapM (λf=>do pure (f.offset, <- sizeOf f.type)):Sem (List (Nat×Nat))).run P w=.ok (fs.map λf=>(f.offset,P.cellsOf f.type)) w
 |[],_=>by simp
 |f::fs,h=>by have h1:=qL (h f (by simp)) w;have h2:=a0x w fs (λf hf=>h f (by simp[hf]));simp only[List.mapM_cons,Sem.run_bind,h1,Result.andThen_ok,Sem.run_pure,h2,List.map_cons]
theorem b5g{t:TypeId}{z:List D}(h:kN P t=some z)(w:World):∃v,(zeroValue t).run P w=.ok v w/\v.cells.size=z.length/\(∀(i:Nat) (d:D),z[i]? =some d->d.one=true/\V R w (v.cells.getD i undef) d):=by
 unfold kN at h;cases hi:P.info? t with
 |none=>simp[hi]at h
 |some i=>
  cases hz:i.zero with
  |none=>simp[hi,hz]at h
  |some v=>simp[hi,hz]at h;obtain⟨h1,h2⟩:=a5S (R:=R) (w:=w) h;refine⟨v,by simp[zeroValue,typeInfo,hi,hz],by simpa using h1,λj d hj=>⟨(h2 j d hj).2,?_⟩⟩;have:=(h2 j d hj).1;simpa[g0Y,List.getD]using this
theorem zR(off:Nat):∀(l:List Value) (k:Nat) (cs:Array Value) (i:Nat),((l.zipIdx k).foldl (λcs (x:Value×Nat)=>cs.setIfInBounds (off+x.2) x.1) cs)[i]? =
  if off+k<=i/\i<off+k+l.length/\i<cs.size then l[i-(off+k)]? else cs[i]?
 |[],k,cs,i=>by simp;omega
 |v::l,k,cs,i=>by
  simp only[List.zipIdx_cons,List.foldl_cons];rw[zR off l (k+1) _ i];simp only[Array.size_setIfInBounds,List.length_cons];by_cases h1:i=off+k
  .subst h1;rw[if_neg (by omega)];by_cases h2:off+k<cs.size
   .rw[if_pos ⟨by omega,by omega,h2⟩];simp[h2]
   .rw[if_neg (by omega)];simp[h2]
  .rw[Array.getElem?_setIfInBounds_ne (by omega)];by_cases h2:off+(k+1)<=i/\i<off+(k+1)+l.length/\i<cs.size
   .rw[if_pos h2,if_pos ⟨by omega,by omega,h2.2.2⟩];have:i-(off+k)=(i-(off+(k+1)))+1:=by omega
    rw[this];simp
   .rw[if_neg h2,if_neg (by omega)]
theorem fold_size(off:Nat):∀(l:List (Value×Nat)) (cs:Array Value),(l.foldl (λcs (x:Value×Nat)=>cs.setIfInBounds (off+x.2) x.1) cs).size=cs.size
 |[],cs=>rfl
 |_::l,cs=>by simp only[List.foldl_cons];rw[fold_size off l];simp
theorem d0c{t:TypeId}{fs:Array Field}(ht:P.underlying t=some (.struct fs)){pl:Nat->Option (Nat×Nat)}(hpl:∀i,pl i=(fs[i]?).map λf=>(f.offset,P.cellsOf f.type)):
  ∀(ps:List (Nat×Value)) (qs:List (Nat×D)) (cs:Array Value) (z r:List D),ps.length=qs.length->(∀(i:Nat) (p:Nat×Value) (q:Nat×D),ps[i]? =some p->qs[i]? =some q->p.1=q.1/\V R w p.2 q.2)->
   cs.size=z.length->(∀(i:Nat) (d:D),z[i]? =some d->d.one=true/\V R w (cs.getD i undef) d)->b9u P t z qs=some r->
   ∃wF,Instr.fill pl cs ps=some wF/\wF.size=r.length/\(∀(i:Nat) (d:D),r[i]? =some d->d.one=true/\V R w (wF.getD i undef) d)
 |[],[],cs,z,r,_,_,jZ,hz,h=>by simp[b9u]at h;subst h;exact⟨cs,rfl,jZ,hz⟩
 |[],_::_,_,_,_,hl,_,_,_,_=>by simp at hl
 |_::_,[],_,_,_,hl,_,_,_,_=>by simp at hl
 |(i,v)::ps,(j,d)::qs,cs,z,r,hl,hp,jZ,hz,h=>by
  obtain⟨hij,hvd⟩:=hp 0 _ _ rfl rfl
  change i=j at hij
  subst hij
  change V R w v d at hvd
  simp only[b9u]at h;cases hf:aI P t i with
  |none=>simp[hf]at h
  |some p=>
   obtain⟨off,u⟩:=p;obtain⟨fs',f,h1,h2,rfl,rfl⟩:=xJ hf;rw[ht]at h1;cases h1;simp only[hf]at h;split at h
   .rename_i hc;obtain⟨rI,hcv⟩:=hvd.cells;have c3Y:Instr.fill pl cs ((i,v)::ps)=Instr.fill pl (v.cells.zipIdx.foldl (λcs (c,j)=>cs.setIfInBounds (f.offset+j) c) cs) ps:=by
     have:(decide (v.cells.size≠P.cellsOf f.type)||decide (f.offset+v.cells.size>cs.size))=false:=by rw[rI,jZ];simp;omega
     simp only[Instr.fill,hpl,h2,Option.map_some,this,Bool.false_eq_true,if_false]
    rw[c3Y];have d4h:(v.cells.zipIdx.foldl (λcs (c,j)=>cs.setIfInBounds (f.offset+j) c) cs)=(v.cells.toList.zipIdx 0).foldl (λcs (x:Value×Nat)=>cs.setIfInBounds (f.offset+x.2) x.1) cs:=by rw[<-Array.foldl_toList,Array.toList_zipIdx]
    rw[d4h];refine d0c ht hpl ps qs _ (overwrite z f.offset d.cells) r (by simpa using hl) (λk p q hp' hq'=>hp (k+1) p q (by simpa using hp') (by simpa using hq')) ?_ ?_ h
    .rw[fold_size,jZ];simp only[overwrite,List.length_append,List.length_take,List.length_drop];omega
    .intro k c hk;rw[g0Y,zR];simp only[Nat.add_zero,Array.length_toList];simp only[overwrite]at hk;by_cases sE:k<f.offset
     .rw[List.append_assoc,g1h (by simp;omega),List.getElem?_take,if_pos sE]at hk;rw[if_neg (by omega)];have:=hz k c hk
      rwa[g0Y]at this
     .by_cases hhi:k<f.offset+d.cells.length
      .rw[List.append_assoc,g1e (by simp;omega),g1h (by simp;omega)]at hk;have a4n:min f.offset z.length=f.offset:=by omega
       simp only[List.length_take,a4n]at hk;rw[if_pos (by rw[rI,jZ];omega)];have:=hcv _ c hk;simpa[g0Y]using this
      .rw[g1e (by simp;omega)]at hk;simp only[List.length_append,List.length_take,g1p]at hk;have a4n:min f.offset z.length=f.offset:=by omega
       rw[a4n,show f.offset+d.cells.length+(k-(f.offset+d.cells.length))=k by omega]at hk;rw[if_neg (by rw[rI];omega)];have:=hz k c hk
       rwa[g0Y]at this
   .cases h
def c7M(R:Nat->Nat->Prop)(μ:Nat->Nat)(w:World)(v:Value)(cs:List DV):Prop:=v.cells.size=cs.length/\∀(i:Nat) (c:DV),cs[i]? =some c->c.cell=true/\TV R μ w (v.cells.getD i undef) c/\(v.cells.getD i undef).oneCell'=true
theorem c3Z{t:TypeId}{fs:Array Field}(ht:P.underlying t=some (.struct fs)){pl:Nat->Option (Nat×Nat)}(hpl:∀i,pl i=(fs[i]?).map λf=>(f.offset,P.cellsOf f.type)):
  ∀(ps:List (Nat×Value)) (qs:List (Nat×List DV)) (cs:Array Value) (z r:List DV),ps.length=qs.length->(∀(i:Nat) (p:Nat×Value) (q:Nat×List DV),ps[i]? =some p->qs[i]? =some q->p.1=q.1/\c7M R μ w p.2 q.2)->
   cs.size=z.length->(∀(i:Nat) (d:DV),z[i]? =some d->d.cell=true/\TV R μ w (cs.getD i undef) d/\(cs.getD i undef).oneCell'=true)->b0i P t z qs=some r->
   ∃wF,Instr.fill pl cs ps=some wF/\wF.size=r.length/\(∀(i:Nat) (d:DV),r[i]? =some d->d.cell=true/\TV R μ w (wF.getD i undef) d/\(wF.getD i undef).oneCell'=true)
 |[],[],cs,z,r,_,_,jZ,hz,h=>by simp[b0i]at h;subst h;exact⟨cs,rfl,jZ,hz⟩
 |[],_::_,_,_,_,hl,_,_,_,_=>by simp at hl
 |_::_,[],_,_,_,hl,_,_,_,_=>by simp at hl
 |(i,v)::ps,(j,d)::qs,cs,z,r,hl,hp,jZ,hz,h=>by
  obtain⟨hij,hvd⟩:=hp 0 _ _ rfl rfl
  change i=j at hij
  subst hij
  change c7M R μ w v d at hvd
  simp only[b0i]at h;cases hf:aI P t i with
  |none=>simp[hf]at h
  |some p=>
   obtain⟨off,u⟩:=p;obtain⟨fs',f,h1,h2,rfl,rfl⟩:=xJ hf;rw[ht]at h1;cases h1;simp only[hf]at h;split at h
   .rename_i hc;obtain⟨rI,hcv⟩:=hvd;have c3Y:Instr.fill pl cs ((i,v)::ps)=Instr.fill pl (v.cells.zipIdx.foldl (λcs (c,j)=>cs.setIfInBounds (f.offset+j) c) cs) ps:=by
     have:(decide (v.cells.size≠P.cellsOf f.type)||decide (f.offset+v.cells.size>cs.size))=false:=by rw[rI,jZ];simp;omega
     simp only[Instr.fill,hpl,h2,Option.map_some,this,Bool.false_eq_true,if_false]
    rw[c3Y];have d4h:(v.cells.zipIdx.foldl (λcs (c,j)=>cs.setIfInBounds (f.offset+j) c) cs)=(v.cells.toList.zipIdx 0).foldl (λcs (x:Value×Nat)=>cs.setIfInBounds (f.offset+x.2) x.1) cs:=by rw[<-Array.foldl_toList,Array.toList_zipIdx]
    rw[d4h];refine c3Z ht hpl ps qs _ (overwrite z f.offset d) r (by simpa using hl) (λk p q hp' hq'=>hp (k+1) p q (by simpa using hp') (by simpa using hq')) ?_ ?_ h
    .rw[fold_size,jZ];simp only[overwrite,List.length_append,List.length_take,List.length_drop];omega
    .intro k c hk;rw[g0Y,zR];simp only[Nat.add_zero,Array.length_toList];simp only[overwrite]at hk;by_cases sE:k<f.offset
     .rw[List.append_assoc,g1h (by simp;omega),List.getElem?_take,if_pos sE]at hk;rw[if_neg (by omega)];have:=hz k c hk
      rwa[g0Y]at this
     .by_cases hhi:k<f.offset+d.length
      .rw[List.append_assoc,g1e (by simp;omega),g1h (by simp;omega)]at hk;have a4n:min f.offset z.length=f.offset:=by omega
       simp only[List.length_take,a4n]at hk;rw[if_pos (by rw[rI,jZ];omega)];have:=hcv _ c hk;simpa[g0Y]using this
      .rw[g1e (by simp;omega)]at hk;simp only[List.length_append,List.length_take,g1p]at hk;have a4n:min f.offset z.length=f.offset:=by omega
       rw[a4n,show f.offset+d.length+(k-(f.offset+d.length))=k by omega]at hk;rw[if_neg (by rw[rI];omega)];have:=hz k c hk
       rwa[g0Y]at this
   .cases h
theorem a5V(hr:Rel P G base R μ st a w):∀ {l:List (Nat×Operand)} {qs:List (Nat×D)},a3d G st l=some qs->
  l.length=qs.length/\∀(i:Nat) (p:Nat×Value) (q:Nat×D),(l.map λx=>(x.1,a.eval x.2))[i]? =some p->qs[i]? =some q->p.1=q.1/\V R w p.2 q.2
 |[],qs,h=>by simp[a3d]at h;subst h;simp
 |(j,x)::l,qs,h=>by
  simp only[a3d]at h;split at h
  .rename_i y ds hy hds;simp at h;subst h;obtain⟨h1,h2⟩:=a5V hr hds;refine⟨by simp[h1],λi p q hp hq=>?_⟩;cases i with
   |zero=>simp at hp hq;subst hp hq;exact⟨rfl,hr.mF hy⟩
   |succ i=>simp at hp hq;exact h2 i p q (by simpa using hp) hq
  .cases h
theorem b2W(hr:Rel P G base R μ st a w):∀ {l:List (Nat×Operand)} {qs:List (Nat×List DV)},a0t G st l=some qs->
  l.length=qs.length/\∀(i:Nat) (p:Nat×Value) (q:Nat×List DV),(l.map λx=>(x.1,a.eval x.2))[i]? =some p->qs[i]? =some q->p.1=q.1/\c7M R μ w p.2 q.2
 |[],qs,h=>by simp[a0t]at h;subst h;simp
 |(j,x)::l,qs,h=>by
  simp only[a0t]at h;split at h
  .rename_i y ds hy hds;simp at h;subst h;obtain⟨h1,h2⟩:=b2W hr hds;refine⟨by simp[h1],λi p q hp hq=>?_⟩;cases i with
   |zero=>simp at hp hq;subst hp hq;exact⟨rfl,a3F (hr.eval x) hy⟩
   |succ i=>simp at hp hq;exact h2 i p q (by simpa using hp) hq
  .cases h
theorem c7N{t:TypeId}{z:List DV}(h:c3Q P t=some z)(w:World):∃v,(zeroValue t).run P w=.ok v w/\v.cells.size=z.length/\(∀(i:Nat) (d:DV),z[i]? =some d->d.cell=true/\TV R μ w (v.cells.getD i undef) d/\(v.cells.getD i undef).oneCell'=true):=by
 unfold c3Q at h;cases hi:P.info? t with
 |none=>simp[hi]at h
 |some i=>
  cases hz:i.zero with
  |none=>simp[hi,hz]at h
  |some v=>
   simp only[hi,hz,Option.bind_some]at h;split at h
   .rename_i dR;cases h;refine⟨v,by simp[zeroValue,typeInfo,hi,hz],by simp,λj d hj=>?_⟩;rw[g1g]at hj;obtain⟨y,hy,rfl⟩:=g0V.1 hj;have he:v.cells.getD j undef=y:=by
     have:v.cells[j]? =some y:=by simpa using hy
     simp[g0Y,this]
    have h1:=g0Z.1 dR y (g1b hy);rw[he];unfold cellOf;split
    .rename_i x hx;exact⟨(yS (R:=R) (w:=w) hx).2,.d _ _ (yS hx).1,h1⟩
    .exact⟨rfl,.undef _,h1⟩
   .cases h
theorem c7O{o:Oper}{t:TypeId}{parts:Array (Nat×Operand)}(ho:o.op=.build t parts)(hs:dJ P t=true)(h:a7s P G t parts st=some out):sV P G o st out:=by
 unfold a7s at h;split at h
 .rename_i z ps hz hps;simp only[g0V]at h;obtain⟨r,gD,rfl⟩:=h;unfold dJ at hs;split at hs
  .rename_i fs hfs;refine bO λbase R μ a w hr=>?_;obtain⟨zv,hz1,hz2,hz3⟩:=c7N (R:=R) (μ:=μ) hz w;obtain⟨hl,hp⟩:=b2W hr hps;have hm:=a0x w fs.toList (λf hf=>by simpa using g0Z.1 hs f hf);obtain⟨wF,hc1,hc2,hc3⟩:=c3Z (R:=R) (μ:=μ) (w:=w) hfs (pl:=λi=>((fs.toList.map λf=>(f.offset,P.cellsOf f.type)).toArray)[i]?) (λi=>by simp)
    (parts.toList.map λx=>(x.1,a.eval x.2)) ps zv.cells z r (by simpa using hl) hp hz2 hz3 gD
   refine⟨.agg wF,?_,.ag _ _ hc2 (λi hi=>(hc3 i _ (g1a hi)).2.2) (λi d hi=>(hc3 i d hi).1) (λi d hi=>(hc3 i d hi).2.1),trivial⟩;have hmm:(fs.mapM (λf=>do pure (f.offset, <- sizeOf f.type)):Sem (Array (Nat×Nat))).run P w=.ok (fs.toList.map λf=>(f.offset,P.cellsOf f.type)).toArray w:=by rw[Array.mapM_eq_mapM_toList];simp only[Sem.run_map,hm,Result.andThen_ok]
   have hpl:(parts.map λ(x:Nat×Operand)=>(x.1,a.eval x.2)).toList=parts.toList.map λx=>(x.1,a.eval x.2):=by simp
   simp only[execOp,ho,Instr.build,Sem.run_bind,hz1,Result.andThen_ok,run_underlying hfs,hmm,Sem.run_pure];rw[hpl,hc1]
   rfl
  .cases hs
 .cases h
theorem b9y{o:Oper}{t:TypeId}{parts:Array (Nat×Operand)}(ho:o.op=.build t parts)(h:a8W P G t parts st=some out):sV P G o st out:=by
 unfold a8W at h;split at h
 .rename_i hs;have rE:=hs;split at h
  .rename_i z ps hz hps;simp only[g0V]at h;obtain⟨r,gD,rfl⟩:=h;unfold dJ at hs;split at hs
   .rename_i fs hfs;refine bO λbase R μ a w hr=>?_;obtain⟨zv,hz1,hz2,hz3⟩:=b5g (R:=R) hz w;obtain⟨hl,hp⟩:=a5V hr hps;have hm:=a0x w fs.toList (λf hf=>by simpa using g0Z.1 hs f hf);obtain⟨wF,hc1,hc2,hc3⟩:=d0c (R:=R) (w:=w) hfs (pl:=λi=>((fs.toList.map λf=>(f.offset,P.cellsOf f.type)).toArray)[i]?) (λi=>by simp)
     (parts.toList.map λx=>(x.1,a.eval x.2)) ps zv.cells z r (by simpa using hl) hp hz2 hz3 gD
    refine⟨.agg wF,?_,.d _ _ (.agg _ _ hc2 (λi d hi=>(hc3 i d hi).1) λi d hi=>(hc3 i d hi).2),trivial⟩;have hmm:(fs.mapM (λf=>do pure (f.offset, <- sizeOf f.type)):Sem (Array (Nat×Nat))).run P w=.ok (fs.toList.map λf=>(f.offset,P.cellsOf f.type)).toArray w:=by rw[Array.mapM_eq_mapM_toList];simp only[Sem.run_map,hm,Result.andThen_ok]
    have hpl:(parts.map λ(x:Nat×Operand)=>(x.1,a.eval x.2)).toList=parts.toList.map λx=>(x.1,a.eval x.2):=by simp
    simp only[execOp,ho,Instr.build,Sem.run_bind,hz1,Result.andThen_ok,run_underlying hfs,hmm,Sem.run_pure];rw[hpl,hc1]
    rfl
   .cases hs
  .exact c7O ho rE h
 .cases h
theorem b2b(hr:Rel P G base R μ st a w){i:Operand}{n:D}{m j:Nat}(hi:st.eval G i=.d n)(h:idx n m=some j):∃k,a.eval i=.int k j/\j<m:=by obtain⟨k,q,rfl,h0,h1,rfl,h2⟩:=b5f h;exact⟨k,by rw[hr.xI hi];congr 1;omega,h2⟩
theorem V.a0y{v:Value}{es:List (List D)}(h:V R w v (.sl es)):∃ao cap,v=.slice ao es.length cap/\es.length<=cap/\(es≠[]->∃b o size,ao=some ⟨b,o,none⟩/\0<size/\(∀e∈es,e.length=size)/\
  ∀(i:Nat) (e:List D),es[i]? =some e->Run R w b (o+i*size) e):=by
 cases h with
 |emp ao cap=>exact⟨ao,cap,rfl,Nat.zero_le _,λh=>absurd rfl h⟩
 |sl b o n cap size es f h1 h2 h3 h4 h5 h6 h7=>
  subst h1;refine⟨_,cap,rfl,h2,λ_=>⟨b,o,size,rfl,h3,h4,λi e hi j d hj=>?_⟩⟩;have vJ:i<es.length:=(g0X.1 hi).1;have hjl:j<size:=by rw[<-h4 e (g1b hi)];exact(g0X.1 hj).1
  obtain⟨q1,q2⟩:=h5 i j vJ hjl;exact⟨h6 i j e d hi hj,q1,f i j,q2,h7 i j e d hi hj⟩
theorem eL{t:TypeId}(h:P.cellsOf t≠0):(P.info? t).isSome=true:=by
 cases hi:P.info? t with
 |none=>simp[Program.cellsOf,hi]at h
 |some i=>rfl
theorem b8r{o:Oper}{t:TypeId}{x i:Operand}(ho:o.op=.indexAddr t x i)(h:tO P G t x i st=some out):sV P G o st out:=by
 unfold tO at h;split at h
 .rename_i e es n hu hx hi;simp only[g1k]at h;obtain⟨j,hj,cs,rI,h⟩:=h;split at h<;>simp at h;rename_i hlen;subst h;refine bO λbase R μ a w hr=>?_;obtain⟨k,hk,hjl⟩:=b2b hr hi hj;obtain⟨ao,cap,hv,b5h,eU⟩:=(hr.mF hx).a0y;obtain⟨b,off,size,rfl,hs0,hs1,cW⟩:=eU (by rintro rfl;simp at rI);have jZ:size=P.cellsOf e:=by rw[<-hlen,hs1 cs (g1b rI)]
  have hso:=qL (eL (P:=P) (t:=e) (by omega)) w;refine⟨.pointer (some ⟨b,off+j*size,none⟩),?_,.ep _ _ _ (cW j cs rI),trivial⟩;simp[execOp,ho,hv,hk,Instr.indexAt,run_underlying hu,asIntOf,hjl,hso,oJ,jZ]
 .rename_i len e k off n hu hx hi;split at h
  .cases h
  .rename_i eU;simp only[g0V]at h;obtain⟨j,hj,rfl⟩:=h;refine bO λbase R μ a w hr=>?_;obtain⟨q,hq,hjl⟩:=b2b hr hi hj;exact⟨.pointer (some ⟨μ k,off+j*P.cellsOf e,none⟩),by simp[execOp,ho,hr.dU hx,hq,Instr.indexAt,run_underlying hu,asIntOf,Instr.sureAddr,hjl,qL (eL eU) w,oJ],.ptr _ _,trivial⟩
 .rename_i len e cs n hu hx hi;split at h
  .cases h
  .rename_i eU;simp only[g0V]at h;obtain⟨j,hj,rfl⟩:=h;refine bO λbase R μ a w hr=>?_;obtain⟨q,hq,hjl⟩:=b2b hr hi hj;obtain⟨b,off,he,cW⟩:=(hr.pB hx).a5U;exact⟨.pointer (some ⟨b,off+j*P.cellsOf e,none⟩),by simp[execOp,ho,he,hq,Instr.indexAt,run_underlying hu,asIntOf,Instr.sureAddr,hjl,qL (eL eU) w,oJ],.ep _ _ _ (cW.drop _),trivial⟩
 .cases h
theorem a1A(b o:Nat)(f:Field){i:TypeInfo}(hi:P.info? f.type=some i)(h:P.cellsOf f.type≠0):(fieldPlace ⟨b,o,none⟩ f).run P w=.ok ⟨b,o+f.offset,none⟩ w:=by
 have: ¬i.size=0:=by simpa[Program.cellsOf,hi]using h
 simp[fieldPlace,sizeOf,typeInfo,hi,this,oJ]
theorem b8s{o:Oper}{t:TypeId}{x:Operand}{i:Nat}(ho:o.op=.fieldAddr t x i)(h:tP P G t x i st=some out):sV P G o st out:=by
 unfold tP at h;split at h
 .rename_i off u hf;obtain⟨fs,f,h1,h2,rfl,rfl⟩:=xJ hf;split at h
  .cases h
  .rename_i eU;have hi:∃i,P.info? f.type=some i:=by
    cases hi:P.info? f.type with
    |none=>simp[Program.cellsOf,hi]at eU
    |some i=>exact⟨i,rfl⟩
   obtain⟨ti,hti⟩:=hi;split at h<;>simp at h<;>subst h
   .rename_i k off hx;exact bO λbase R μ a w hr=>⟨.pointer (some ⟨μ k,off+f.offset,none⟩),by simp[execOp,ho,hr.dU hx,Instr.fieldAt,run_underlying h1,h2,Instr.sureAddr,a1A (w:=w) (μ k) off f hti eU],.ptr _ _,trivial⟩
   .rename_i cs hx;refine bO λbase R μ a w hr=>?_;obtain⟨b,off,he,cW⟩:=(hr.pB hx).a5U;exact⟨.pointer (some ⟨b,off+f.offset,none⟩),by simp[execOp,ho,he,Instr.fieldAt,run_underlying h1,h2,Instr.sureAddr,a1A (w:=w) b off f hti eU],.ep _ _ _ (cW.drop _),trivial⟩
 .cases h
end
end Go.VM
namespace Go.VM
open Go Go.RowKit
section
variable {P:Program} {G:GT} {st:St} {out:Out}
variable {base:dH} {R:Nat->Nat->Prop} {μ:Nat->Nat} {a:Act} {w:World}
theorem b2X(n:Nat){xs ys:Array Value}{ps qs:List D}(hxs:∀(i:Nat) (d:D),ps[i]? =some d->V R w (xs.getD i undef) d)(hys:∀(i:Nat) (d:D),qs[i]? =some d->V R w (ys.getD i undef) d)(hx:xs.size=ps.length)(hy:ys.size=qs.length):
  ∀(fs:List Field) (k:Nat) (r:Bool),(∀(i:Nat) (f:Field),fs[i]? =some f->f.name≠ "_" /\f.offset=k+i/\∃d,P.underlying f.type=some d/\rN d=true/\∀p,ps[k+i]? =some p->uH P f.type p=true)->
   k+fs.length=ps.length->a0O (ps.drop k) (qs.drop k)=some r->(Op.eqFields (n+1) xs ys fs).run P w=.ok r w
 |[],k,r,_,hl,h=>by
  rw[List.drop_eq_nil_of_le (by simp at hl;omega)]at h;cases hq:qs.drop k with
  |nil=>rw[hq]at h;simp[a0O]at h;subst h;simp[Op.eqFields]
  |cons c cs=>rw[hq]at h;simp[a0O]at h
 |f::fs,k,r,hf,hl,h=>by
  obtain⟨hn,ho,d,hd,hs,hk⟩:=hf 0 f rfl;simp only[Nat.add_zero]at ho hk;have hkl:k<ps.length:=by simp at hl;omega
  rw[g1j hkl]at h;cases hq:qs.drop k with
  |nil=>rw[hq]at h;simp[a0O]at h
  |cons c cs=>
   have hkq:k<qs.length:=by have:=congrArg List.length hq;simp at this;omega
   rw[g1j hkq]at h;simp only[a0O]at h;split at h
   .rename_i x y hx1 hy1;simp at h;subst h;have v1:=hxs k ps[k] (by simp[hkl]);have v2:=hys k qs[k] (by simp[hkq]);have he:=d1t n hd hs v1 v2 hx1 (hk ps[k] (by simp[hkl]));have hp:∀(zs:Array Value),k<zs.size->(part f.type zs k).run P w=.ok (zs.getD k undef) w:=λzs hz=>by
     unfold part;simp only[Sem.run_bind,sN hd,Result.andThen_ok];have:pV d=false:=by cases d<;>simp_all [rN,pV]
     simp[this,hz]
    have ih:=b2X n hxs hys hx hy fs (k+1) y (λi f' hi=>by
     have:=hf (i+1) f' (by simpa using hi)
     rwa[show k+(i+1)=k+1+i by omega]at this) (by simp at hl;omega) hy1
    simp only[Op.eqFields,hn,ne_eq,not_false_eq_true,if_true,Sem.run_bind,ho,hp xs (by rw[hx];exact hkl),hp ys (by rw[hy];exact hkq),Result.andThen_ok,he];cases x
    .simp
    .simp[ih]
   .cases h
theorem a8p:∀(k:Nat) (fs:List Field) (ds:List TypeDesc) (ps:List D),a3C P k fs=some ds->a0b ds ps=true->
  fs.length=ps.length/\∀(i:Nat) (f:Field),fs[i]? =some f->f.name≠ "_" /\f.offset=k+i/\∃d,P.underlying f.type=some d/\rN d=true/\∀p,ps[i]? =some p->uH P f.type p=true
 |k,[],ds,ps,h,hf=>by simp[a3C]at h;subst h;cases ps<;>simp[a0b]at hf;simp
 |k,f::fs,ds,ps,h,hf=>by
  simp only[a3C]at h;split at h
  .rename_i d ds' hd hds;split at h<;>simp at h;rename_i hc;subst h;cases ps with
   |nil=>simp[a0b]at hf
   |cons p ps=>
    simp only[a0b,g0W]at hf;obtain⟨h1,h2⟩:=a8p (k+1) fs ds' ps hds hf.2;refine⟨by simp[h1],λi g hi=>?_⟩;cases i with
    |zero=>simp at hi;subst hi;exact⟨hc.1,by omega,d,hd,hc.2.2,λp' hp'=>by simp at hp';subst hp';simp[uH,hd,hf.1]⟩
    |succ i=>simp at hi;obtain⟨q1,q2,q3⟩:=h2 i g hi;exact⟨q1,by omega,by simpa using q3⟩
  .cases h
theorem d9L{o:Oper}{op:BinOp}{t u:TypeId}{x y:Operand}(ho:o.op=.binOp op t x y u)(h:c7I P G op t x y st=some out):sV P G o st out:=by
 unfold c7I at h;split at h
 .rename_i p q hx hy;simp only[g0V]at h;obtain⟨c,hc,rfl⟩:=h;refine bO λbase R μ a w hr=>?_;have hv:∃r,(do eqGuard op t x y (a.eval x) (a.eval y);binOp op t (a.eval x) (a.eval y):Sem Value).run P w=.ok r w/\V R w r c:=by
   have vx:=hr.mF hx;have vy:=hr.mF hy;unfold d4c at hc;split at hc
   .rename_i b1 b2;obtain he1:=vx.xH;obtain he2:=vy.xH;rw[he1,he2];split at hc<;>simp at hc<;>subst hc
    .rename_i hu;exact⟨.bool (b1==b2),by simp[eqGuard,binOp,run_equal_bool w t b1 b2 hu],.bool _⟩
    .rename_i hu;exact⟨.bool !(b1==b2),by simp[eqGuard,binOp,run_equal_bool w t b1 b2 hu],.bool _⟩
   .rename_i ps qs;split at hc
    .rename_i ds hfl;obtain⟨xs,he1,hs1,f3H⟩:=vx.a4m;obtain⟨ys,he2,hs2,f3I⟩:=vy.a4m;have hv1:=λi d hi=>(f3H i d hi).2;have hv2:=λi d hi=>(f3I i d hi).2;rw[he1,he2];unfold b9t at hfl;split at hfl
     .rename_i fs hfs;have hfl:(P.eqGuardType P.depth t=false/\P.stoodInHeld t=false)/\a3C P 0 fs.toList=some ds:=by
       split at hfl
       .rename_i h;exact⟨h,hfl⟩
       .cases hfl
      obtain⟨hg1,hg2⟩:=hfl.1;by_cases kU:a0b ds ps=true
      case neg=>rw[if_neg kU]at hc;cases hc
      rw[if_pos kU]at hc;have hfo:P.fieldsOf t=fs:=by simp[Program.fieldsOf,hfs]
      have cW:∀r,a0O ps qs=some r->(Op.equalIn 10000 t (.agg xs) (.agg ys)).run P w=.ok r w:=λr gD=>by rw[run_equalIn_struct w 9999 t xs ys (by rw[hfo];exact hfs) hg2,hfo];obtain⟨hl,hf'⟩:=a8p 0 fs.toList ds ps hfl.2 kU;exact b2X 9998 hv1 hv2 hs1 hs2 fs.toList 0 r (λi f hi=>by simpa using hf' i f hi) (by simpa using hl) (by simpa using gD)
      have hgd:(eqGuard op t x y (.agg xs) (.agg ys)).run P w=.ok () w:=run_eqGuard_agg w op t x y xs ys hg1;split at hc<;>simp at hc<;>subst hc
      .rename_i r gD;exact⟨.bool r,by simp only[Sem.run_bind,hgd,Result.andThen_ok,run_eql_struct,cW r gD],.bool _⟩
      .rename_i r gD;exact⟨.bool !r,by simp only[Sem.run_bind,hgd,Result.andThen_ok,run_neq_struct,cW r gD],.bool _⟩
     .cases hfl
    .cases hc
   .exact d4g vx vy hc
  obtain⟨r,h1,h2⟩:=hv;refine⟨r,?_,.d _ _ h2,trivial⟩;simp only[execOp,ho];rw[Sem.run_bind,h1]
  rfl
 .cases h
theorem a8q(w:World){t e:TypeId}(hu:P.underlying t=some (.slice e))(ao:Option Addr)(n cap:Nat):(Op.equal t (.slice ao n cap) (.slice none 0 0)).run P w=.ok ao.isNone w:=by unfold Op.equal;unfold Op.maxDepth;unfold Op.equalIn;simp only[Sem.run_bind,run_underlying hu,Result.andThen_ok];cases ao<;>rfl
theorem V.e3n{v:Value}{es:List (List D)}(h:V R w v (.sl es)):∃ao n cap,v=.slice ao n cap/\(es.length≠0->ao.isNone=false):=by
 cases h with
 |emp ao cap=>exact⟨ao,0,cap,rfl,λh=>absurd rfl h⟩
 |sl b o n cap size es f=>exact⟨_,_,_,rfl,λ_=>rfl⟩
theorem c4a{o:Oper}{op:BinOp}{t u:TypeId}{x y:Operand}(ho:o.op=.binOp op t x y u)(hy:c1n y=true)(h:a1t P G op t x st=some out):sV P G o st out:=by
 have hy':y=.const (.slice none 0 0):=by
  unfold c1n at hy;split at hy
  .rfl
  .cases hy
 subst hy';have cW:∀(a:Act) (w:World) (e:TypeId) (ao:Option Addr) (n cap:Nat),P.underlying t=some (.slice e)->a.eval x=.slice ao n cap->
   (op=.eql->(execOp a.eval o).run P w=.ok (.value (.bool ao.isNone)) w)/\(op=.neq->(execOp a.eval o).run P w=.ok (.value (.bool !ao.isNone)) w):=λa w e ao n cap hu hx=>by
  have hc:a.eval (.const (.slice none 0 0))=.slice none 0 0:=rfl;constructor
  .rintro rfl;simp only[execOp,ho,hx,hc];simp[eqGuard,binOp,a8q w hu]
  .rintro rfl;simp only[execOp,ho,hx,hc];simp[eqGuard,binOp,a8q w hu]
 unfold a1t at h;split at h
 .rename_i e es hu hx;simp only[g1c]at h;subst h;refine bO λbase R μ a w hr=>?_;obtain⟨ao,n,cap,hv,eU⟩:=(hr.mF hx).e3n;refine⟨_,(cW a w e ao n cap hu hv).1 rfl,?_,trivial⟩;by_cases h0:es.length=0
  .rw[if_pos h0];exact .qF _
  .rw[if_neg h0,eU h0];exact .d _ _ (.bool _)
 .rename_i e es hu hx;simp only[g1c]at h;subst h;refine bO λbase R μ a w hr=>?_;obtain⟨ao,n,cap,hv,eU⟩:=(hr.mF hx).e3n;refine⟨_,(cW a w e ao n cap hu hv).2 rfl,?_,trivial⟩;by_cases h0:es.length=0
  .rw[if_pos h0];exact .qF _
  .rw[if_neg h0,eU h0];exact .d _ _ (.bool _)
 .rename_i e hu hx;simp only[g1c]at h;subst h;refine bO λbase R μ a w hr=>?_;obtain⟨ao,hv⟩:=(hr.mF hx).kT;exact⟨_,(cW a w e ao 0 0 hu hv).1 rfl,.qF _,trivial⟩
 .rename_i e hu hx;simp only[g1c]at h;subst h;refine bO λbase R μ a w hr=>?_;obtain⟨ao,hv⟩:=(hr.mF hx).kT;exact⟨_,(cW a w e ao 0 0 hu hv).2 rfl,.qF _,trivial⟩
 .cases h
theorem d4k{o:Oper}{op:BinOp}{t u:TypeId}{x y:Operand}(ho:o.op=.binOp op t x y u)(h:b5b P G op t x y st=some out):sV P G o st out:=by
 unfold b5b at h;split at h
 .exact c4a ho ‹_› h
 .exact d9L ho h
theorem d4l{src dst:TypeId}{p c:D}{v:Value}(hv:V R w v p)(h:c9V P src dst p=some c):∃r,(convert src dst v).run P w=.ok r w/\V R w r c:=by
 unfold c9V at h;split at h
 .rename_i d k k' n hs hd;simp only[g1c]at h;subst h;obtain rfl:=hv.uI;exact⟨_,by simp[convert,run_underlying hs,run_underlying hd,Conv.intToInt],.int _ _⟩
 .rename_i d s hs hd;simp only[g1c]at h;subst h;obtain rfl:=hv.pW;exact⟨_,by simp[convert,run_underlying hs,run_underlying hd],.str _⟩
 .rename_i e es hs hd;split at h
  .rename_i hu;simp only[g0V]at h;obtain⟨bs,hbs,rfl⟩:=h;unfold d1m at hu;split at hu<;>simp at hu;rename_i he;obtain⟨ao,cap,rfl,b5h,eU⟩:=hv.a0y;refine⟨.string ⟨bs.toArray⟩,?_,.str _⟩;rw[run_convert_bytes_string w src dst e _ _ _ hs he hd];have b5j:∀(es:List (List D)) (bs:List UInt8),yR es=some bs->∃ns:List Int,es=ns.map (λn=>[D.int .u8 n])/\bs=ns.map λn=>UInt8.ofNat n.toNat:=by
    intro es
    induction es with
    |nil=>intro bs h;simp[yR]at h;subst h;exact⟨[],rfl,rfl⟩
    |cons c es ih=>
     intro bs h;unfold yR at h;split at h
     .rename_i heq;cases heq
     .rename_i n l heq;simp only[g0V]at h;obtain⟨bs',hb',rfl⟩:=h;cases heq;obtain⟨ns,h1,h2⟩:=ih bs' hb';exact⟨n::ns,by simp[h1],by simp[h2]⟩
     .cases h
   obtain⟨ns,he1,he2⟩:=b5j es bs hbs;cases ao with
   |none=>
    have:es=[]:=by
     cases es with
     |nil=>rfl
     |cons c l=>obtain⟨b,o,size,h,_⟩:=eU (by simp);cases h
    subst this;simp[yR]at hbs;subst hbs;simp[Conv.bytesToString]
    rfl
   |some ad=>
    have hl:(loadCells ad es.length).run P w=.ok (ns.map (Value.int .u8)).toArray w:=by
     by_cases b4c:es=[]
     .subst b4c;have:ns=[]:=by simpa using he1.symm
      subst this;simp[loadCells,loadCellsFrom]
     .obtain⟨b,o,size,ha,hs0,hs1,cW⟩:=eU b4c;cases ha;have hn:∀j,j<ns.length->w.cell? ((⟨b,o,none⟩:Addr).add j)=some (.int .u8 (ns.getD j 0)):=λj hj=>by
       have hej:es[j]? =some [D.int .u8 (ns.getD j 0)]:=by rw[he1];simp[hj]
       have jZ:size=1:=by rw[<-hs1 _ (g1b hej)];rfl
       obtain⟨_,_,v,hc,hv⟩:=cW j _ hej 0 _ rfl;rw[oJ];rw[jZ,Nat.mul_one,Nat.add_zero]at hc;rw[hc,hv.uI]
      have hlen:es.length=(ns.map (Value.int .u8)).length:=by rw[he1];simp
      rw[hlen];exact run_loadCells_list (P:=P) w _ (ns.map (Value.int .u8)) (λj v hj=>by simp only[g1g,g0V]at hj;obtain⟨n,hn',rfl⟩:=hj;have hjl:=(g0X.1 hn').1;rw[hn j hjl];simp[List.getD,hn'])
    rw[run_bytesToString w ad es.length cap ns hl];have e9T:∀(ns:List Int) (s:List UInt8),ns.foldl (λ(r:ByteArray) n=>r.push (UInt8.ofNat n.toNat)) ⟨s.toArray⟩=⟨(s++ns.map λn=>UInt8.ofNat n.toNat).toArray⟩:=by
     intro ns
     induction ns with
     |nil=>intro s;simp
     |cons n ns ih=>
      intro s;have hp:(⟨s.toArray⟩:ByteArray).push (UInt8.ofNat n.toNat)=⟨(s++[UInt8.ofNat n.toNat]).toArray⟩:=by apply ByteArray.ext;simp[ByteArray.push]
      simp only[List.foldl_cons,hp,ih];simp
    have:=e9T ns [];simp only[List.nil_append]at this;rw[he2, <- this]
    rfl
  .cases h
 .rename_i e hs hd;split at h
  .rename_i hu;simp only[g1c]at h;subst h;unfold d1m at hu;split at hu<;>simp at hu;rename_i he;obtain⟨ao,rfl⟩:=hv.kT;refine⟨.string ⟨#[]⟩,?_,.str []⟩;rw[run_convert_bytes_string w src dst e _ _ _ hs he hd];cases ao with
   |none=>simp[Conv.bytesToString];rfl
   |some ad=>
    rw[run_bytesToString w ad 0 0 [] (by simp[loadCells,loadCellsFrom])]
    rfl
  .cases h
 .cases h
theorem d4m{o:Oper}{src dst:TypeId}{x:Operand}(ho:o.op=.convert src dst x)(h:b5c P G src dst x st=some out):sV P G o st out:=by
 unfold b5c at h;split at h
 .rename_i p hx;simp only[g0V]at h;obtain⟨c,hc,rfl⟩:=h;refine bO λbase R μ a w hr=>?_;obtain⟨r,h1,h2⟩:=d4l (hr.mF hx) hc;exact⟨r,by simp[execOp,ho,h1],.d _ _ h2,trivial⟩
 .cases h
theorem a4o(s:List UInt8):(⟨s.toArray⟩:ByteArray).size=s.length:=by simp[ByteArray.size]
theorem wG{r:Nat}{es:Array MapEntry}{clock:Nat}(hb:w.heap[r]? =some (.map es clock)):(getObj r).run P w=.ok (.map es clock) w:=by simp[getObj,Sem.run,hb]
theorem d9N{o:Oper}{x:Operand}{t:TypeId}(ho:o.op=.call {callee:=.builtin .len,args:=#[x],argTypes:=#[t]})(h:d1n P G t x st=some out):sV P G o st out:=by
 unfold d1n at h;split at h
 .rename_i s hu hx;simp only[g1c]at h;subst h;exact bO λbase R μ a w hr=>⟨.int .i64 s.length,by simp[execOp,ho,resolve,invoke,builtin,Builtin.len_,run_underlying hu,hr.b0n hx,goInt,a4o],.d _ _ (.int _ _),trivial⟩
 .rename_i e es hu hx;simp only[g1c]at h;subst h;refine bO λbase R μ a w hr=>⟨.int .i64 es.length,?_,.d _ _ (.int _ _),trivial⟩;obtain⟨ao,cap,he,_⟩:=(hr.mF hx).a0y;simp[execOp,ho,resolve,invoke,builtin,Builtin.len_,run_underlying hu,he,goInt]
 .rename_i e hu hx;simp only[g1c]at h;subst h;refine bO λbase R μ a w hr=>⟨.int .i64 0,?_,.d _ _ (.int _ _),trivial⟩;obtain⟨ao,he⟩:=(hr.mF hx).kT;simp[execOp,ho,resolve,invoke,builtin,Builtin.len_,run_underlying hu,he,goInt]
 .rename_i kt et k hu hx;split at h
  .rename_i es hk;simp only[g1c]at h;subst h;refine bO λbase R μ a w hr=>⟨.int .i64 es.length,?_,.d _ _ (.int _ _),trivial⟩;obtain⟨_,_,qG,clock,hh,jZ,_⟩:=hr.jR k _ hk;simp[execOp,ho,resolve,invoke,builtin,Builtin.len_,run_underlying hu,hr.a9d hx,goInt,wG (P:=P) hh,jZ]
  .cases h
 .cases h
def OB(x:Option Value)(d1l n j:Nat):Prop:=(x=none/\j=d1l)\/∃k,x=some (.int k (j:Int))/\j<=n
theorem oU(hr:Rel P G base R μ st a w){x:Option Operand}{d1l n j:Nat}(h:hZ G st x d1l n=some j):OB (x.map a.eval) d1l n j:=by
 unfold hZ at h;split at h
 .simp at h;exact .inl ⟨rfl,h.symm⟩
 .rename_i y;split at h
  .rename_i z hz;unfold bound at h;split at h
   .rename_i k i;split at h<;>simp at h;rename_i hb;subst h;refine .inr ⟨k,?_,by omega⟩;simp only[Option.map_some,hr.xI hz];congr 2;omega
   .cases h
  .cases h
theorem run_sliceBound(k:IntKind)(j n:Nat)(h:j<=n)(c:BoundsCode):(Instr.sliceBound (.int k (j:Int)) n c).run P w=.ok j w:=by simp[Instr.sliceBound,asIntOf,h]
theorem a9e(isSlice:Bool)(len cap l h:Nat)(lo hi:Option Value)(hlen:len<=cap)(hh:OB hi len len h)(hl:OB lo 0 h l):(Instr.sliceBounds isSlice len cap lo hi none).run P w=.ok (l,h,cap) w/\l<=h/\h<=len:=by
 have h1:h<=len:=by rcases hh with⟨_,rfl⟩|⟨k,_,h⟩<;>omega
 have h2:l<=h:=by rcases hl with⟨_,rfl⟩|⟨k,_,h⟩<;>omega
 refine⟨?_,h2,h1⟩;rcases hh with⟨rfl,rfl⟩|⟨k,rfl,hk⟩
 .rcases hl with⟨rfl,rfl⟩|⟨k',rfl,hk'⟩
  .simp[Instr.sliceBounds]
  .simp[Instr.sliceBounds,run_sliceBound (P:=P) (w:=w) k' l h hk']
 .rcases hl with⟨rfl,rfl⟩|⟨k',rfl,hk'⟩
  .simp[Instr.sliceBounds,run_sliceBound (P:=P) (w:=w) k h cap (by omega)]
  .simp[Instr.sliceBounds,run_sliceBound (P:=P) (w:=w) k h cap (by omega),run_sliceBound (P:=P) (w:=w) k' l h hk']
theorem V.sub{ao:Option Addr}{es:List (List D)}{cap:Nat}(hv:V R w (.slice ao es.length cap) (.sl es))(l h size:Nat)(hlh:l<=h)(hhl:h<=es.length)(b5h:es.length<=cap)(jZ:∀e∈es,e.length=size):V R w (.slice (if cap=l then ao else ao.map (·.add (l*size))) (h-l) (cap-l)) (.sl ((es.take h).drop l)):=by
 have hlen:((es.take h).drop l).length=h-l:=by simp;omega
 by_cases hz:h-l=0
 .rw[hz];have:(es.take h).drop l=[]:=List.eq_nil_of_length_eq_zero (by rw[hlen,hz]);rw[this];exact .emp _ _
 .obtain⟨ao',d9O,he,_,eU⟩:=hv.a0y;cases he;obtain⟨b,o,a2v,rfl,hs0,hs1,cW⟩:=eU (by rintro rfl;simp at hhl;omega);have xK:a2v=size:=by
   have h0l:0<es.length:=by omega
   have hm:es[0]? =some es[0]:=by simp
   have h1:=hs1 es[0] (g1b hm);have h2:=jZ es[0] (g1b hm);omega
  subst xK;rw[if_neg (by omega)];simp only[Option.map_some,oJ];have a5D:∀(i:Nat) (e:List D),((es.take h).drop l)[i]? =some e->es[l+i]? =some e:=λi e hi=>by
   rw[g1p,List.getElem?_take]at hi;split at hi
   .exact hi
   .cases hi
  have qC:∀(i j:Nat),i<h-l->j<a2v->R b (o+l*a2v+i*a2v+j)/\∃v d,w.cell? ⟨b,o+l*a2v+i*a2v+j,none⟩=some v/\((es.take h).drop l)[i]?.bind (·[j]?)=some d/\d.one=true/\V R w v d:=λi j hi hj=>by
   have vJ:l+i<es.length:=by omega
   have hei:es[l+i]? =some es[l+i]:=by simp[vJ]
   have hjl:j<(es[l+i]).length:=by rw[hs1 _ (g1b hei)];exact hj
   obtain⟨h1,h2,v,h3,h4⟩:=cW (l+i) es[l+i] hei j (es[l+i])[j] (by simp[hjl]);have f3L:o+(l+i)*a2v+j=o+l*a2v+i*a2v+j:=by rw[Nat.add_mul];omega
   rw[f3L]at h2 h3;refine⟨h2,v,(es[l+i])[j],h3,?_,h1,h4⟩;rw[g1p,List.getElem?_take,if_pos (by omega),hei];simp[hjl]
  refine .sl b (o+l*a2v) (h-l) (cap-l) a2v _ (λi j=>(w.cell? ⟨b,o+l*a2v+i*a2v+j,none⟩).getD undef) hlen.symm (by omega) hs0 (λe he=>?_) (λi j hi hj=>?_) (λi j e d he hd=>?_) (λi j e d he hd=>?_)
  .exact jZ e (List.mem_of_mem_take (List.mem_of_mem_drop he))
  .obtain⟨h1,v,d,h2,_⟩:=qC i j hi hj;exact⟨h1,by rw[h2];rfl⟩
  .exact(cW _ e (a5D i e he) j d hd).1
  .have vJ:i<h-l:=by rw[<-hlen];exact(g0X.1 he).1
   have hjl:j<a2v:=by rw[<-jZ e (List.mem_of_mem_take (List.mem_of_mem_drop (g1b he)))];exact(g0X.1 hd).1
   obtain⟨h1,v,d',h2,h3,h4,h5⟩:=qC i j vJ hjl;rw[he]at h3;simp only[Option.bind_some]at h3;rw[hd]at h3;cases h3;rw[h2];exact h5
theorem c4d(s:List UInt8)(l h:Nat):(⟨s.toArray⟩:ByteArray).extract l h=⟨((s.take h).drop l).toArray⟩:=by rw[ByteArray.extract_mk];congr 2;rw[List.drop_take]
end
end Go.VM
namespace Go.VM
open Go Go.RowKit
section
variable {P:Program} {G:GT} {st:St} {out:Out}
variable {base:dH} {R:Nat->Nat->Prop} {μ:Nat->Nat} {a:Act} {w:World}
theorem xL{t e:TypeId}(hu:P.underlying t=some (.slice e))(ao:Option Addr)(len cap:Nat)(lo hi mx:Option Value):
  (Instr.sliceAt t (.slice ao len cap) lo hi mx).run P w=((Instr.sliceBounds true len cap lo hi mx).run P w).andThen λb w'=>((sizeOf e).run P w').andThen λs w''=>.ok (.slice (if b.2.2=b.1 then ao else ao.map (·.add (b.1*s))) (b.2.1-b.1) (b.2.2-b.1)) w'':=by
 simp only[Instr.sliceAt,Instr.slice,Sem.run_bind,run_underlying hu,Result.andThen_ok,Sem.run_pure]
theorem b2Y(hr:Rel P G base R μ st a w)(len cap:Nat){lo hi:Option Operand}{m:Operand}(h1:lo.isNone=true)(h2:hZ G st hi 1 0=some 0)(h3:hZ G st (some m) 1 0=some 0):
  (Instr.sliceBounds true len cap (lo.map a.eval) (hi.map a.eval) ((some m).map a.eval)).run P w=.ok (0,0,0) w:=by
 have hh:=oU hr h2;have hm:=oU hr h3;have sE:lo=none:=by cases lo<;>simp_all
 subst sE;rcases hh with⟨_,h⟩|⟨k,hk,_⟩
 .cases h
 .rcases hm with⟨h,_⟩|⟨k',hk',_⟩
  .cases h
  .rw[hk,hk'];simp[Instr.sliceBounds,Instr.sliceBound,asIntOf]
theorem d1u{o:Oper}{t:TypeId}{x:Operand}{lo hi mx:Option Operand}(ho:o.op=.slice t x lo hi mx)(h:a8Z P G t x lo hi mx st=some out):sV P G o st out:=by
 unfold a8Z at h;split at h
 .rename_i s hu hx;simp only[g1k,g0V]at h;obtain⟨hh,h1,l,h2,rfl⟩:=h;refine bO λbase R μ a w hr=>?_;have hb:=a9e (P:=P) (w:=w) false s.length s.length l hh _ _ (g1m _) (oU hr h1) (oU hr h2);refine⟨.string ⟨((s.take hh).drop l).toArray⟩,?_,.d _ _ (.str _),trivial⟩;simp[execOp,ho,hr.b0n hx,run_sliceAt_string (P:=P) w t _ _ _ _ hu,Instr.slice,run_underlying hu,a4o,hb.1,c4d]
 .rename_i e es hu hx;split at h
  .rename_i hc;simp only[g1k,g0V]at h;obtain⟨hh,h1,l,h2,rfl⟩:=h;refine bO λbase R μ a w hr=>?_;have hv:=hr.mF hx;obtain⟨ao,cap,he,b5h,_⟩:=hv.a0y;obtain⟨hb,hlh,hhl⟩:=a9e (P:=P) (w:=w) true es.length cap l hh _ _ b5h (oU hr h1) (oU hr h2);rw[he]at hv;refine⟨_,?_,.d _ _ (hv.sub l hh (P.cellsOf e) hlh hhl b5h (λc hc'=>by simpa using g0Z.1 hc.2 c hc')),trivial⟩;simp only[execOp,ho,Sem.run_bind,he,xL hu,Option.map_none,hb,Result.andThen_ok,qL (eL hc.1) w,Sem.run_pure]
  .cases h
 .rename_i e hu hx;split at h
  .rename_i hc;simp only[g1k,g0V]at h;obtain⟨hh,h1,l,h2,rfl⟩:=h;refine bO λbase R μ a w hr=>?_;obtain⟨ao,he⟩:=(hr.mF hx).kT;obtain⟨hb,hlh,hhl⟩:=a9e (P:=P) (w:=w) true 0 0 l hh _ _ (g1m _) (oU hr h1) (oU hr h2);have h0:hh=0:=by omega
   have h0':l=0:=by omega
   subst h0 h0';refine⟨.slice ao 0 0,?_,.d _ _ (.aD _),trivial⟩;simp[execOp,ho,he,xL hu,hb,qL (eL hc) w]
  .cases h
 .rename_i e es m hu hx;split at h
  .rename_i hc;simp only[g1c]at h;subst h;refine bO λbase R μ a w hr=>?_;obtain⟨ao,cap,he,_⟩:=(hr.mF hx).a0y;have hb:=b2Y hr es.length cap hc.2.1 hc.2.2.1 hc.2.2.2;refine⟨.slice ao 0 0,?_,.d _ _ (.aD _),trivial⟩;simp only[execOp,ho,Sem.run_bind,he,xL hu,hb,Result.andThen_ok,qL (eL hc.1) w,Sem.run_pure,if_true,Nat.sub_self]
  .cases h
 .rename_i e m hu hx;split at h
  .rename_i hc;simp only[g1c]at h;subst h;refine bO λbase R μ a w hr=>?_;obtain⟨ao,he⟩:=(hr.mF hx).kT;have hb:=b2Y hr 0 0 hc.2.1 hc.2.2.1 hc.2.2.2;refine⟨.slice ao 0 0,?_,.d _ _ (.aD _),trivial⟩;simp only[execOp,ho,Sem.run_bind,he,xL hu,hb,Result.andThen_ok,qL (eL hc.1) w,Sem.run_pure,if_true,Nat.sub_self]
  .cases h
 .cases h
theorem rP{d:TypeDesc}{p q:D}{u v:Value}{r:Bool}(hu:V R w u p)(hv:V R w v q)(hf:tB d p=true)(h:a1s p q=some r):Instr.sameNow d u v=some r:=by
 unfold a1s at h;split at h
 .obtain rfl:=hu.uI;obtain rfl:=hv.uI;split at h<;>simp at h;rename_i wE;subst wE h;cases d<;>simp[tB]at hf;simp[Instr.sameNow]
 .obtain rfl:=hu.pW;obtain rfl:=hv.pW;simp at h;subst h;cases d<;>simp[tB]at hf;simp[Instr.sameNow,d0b]
 .obtain rfl:=hu.xH;obtain rfl:=hv.xH;simp at h;subst h;cases d<;>simp[tB]at hf;simp[Instr.sameNow]
 .cases h
def vM(R:Nat->Nat->Prop)(w:World)(l:List MapEntry)(es:List (D×D)):Prop:=l.length=es.length/\∀(i:Nat) (e:MapEntry) (k v:D),l[i]? =some e->es[i]? =some (k,v)->V R w e.key k/\V R w e.val v
theorem vM.a5T{qG:Array MapEntry}{es:List (D×D)}(h1:qG.size=es.length)(h2:∀(i:Nat) (k v:D),es[i]? =some (k,v)->V R w ((qG.getD i default).key) k/\V R w ((qG.getD i default).val) v):vM R w qG.toList es:=
 ⟨by simpa using h1,λi e k v he hk=>by
  have:=h2 i k v hk;have hg:qG.getD i default=e:=by
   have:qG[i]? =some e:=by simpa using he
   simp[g0Y,this]
  rwa[hg]at this⟩
theorem vM.tail{e:MapEntry}{l:List MapEntry}{x:D×D}{es:List (D×D)}(h:vM R w (e::l) (x::es)):vM R w l es:=
 ⟨by simpa using h.1,λi e' k v he hk=>h.2 (i+1) e' k v (by simpa using he) (by simpa using hk)⟩
theorem b5k{d:TypeDesc}{k:D}{u:Value}(hu:V R w u k)(hf:tB d k=true):∀(l:List MapEntry) (es:List (D×D)) (n:Nat) (r:Option D),vM R w l es->findKeyD k es=some r->
  (r=none/\Instr.findNow d u l n=some none)\/∃(i:Nat) (e:MapEntry) (k' v:D),r=some v/\Instr.findNow d u l n=some (some (n+i,e.val))/\l[i]? =some e/\es[i]? =some (k',v)
 |[],[],n,r,_,h=>by simp[findKeyD]at h;subst h;exact .inl ⟨rfl,rfl⟩
 |[],_::_,_,_,he,_=>by simp[vM]at he
 |_::_,[],_,_,he,_=>by simp[vM]at he
 |e::l,(k',v')::es,n,r,he,h=>by
  have h0:=he.2 0 e k' v' rfl rfl;simp only[findKeyD]at h;split at h
  .rename_i hq;simp at h;subst h;exact .inr ⟨0,e,k',v',rfl,by simp[Instr.findNow,rP hu h0.1 hf hq],rfl,rfl⟩
  .rename_i hq;rcases b5k hu hf l es (n+1) r he.tail h with⟨h1,h2⟩|⟨i,e',k1,v1,h1,h2,h3,h4⟩
   .exact .inl ⟨h1,by simp[Instr.findNow,rP hu h0.1 hf hq,h2]⟩
   .exact .inr ⟨i+1,e',k1,v1,h1,by simp[Instr.findNow,rP hu h0.1 hf hq,h2];omega,by simpa using h3,by simpa using h4⟩
  .cases h
theorem a9f{t k e:TypeId}(h:mapOf P t=some (k,e)):P.underlying t=some (.map k e)/\∃d,P.underlying k=some d/\rN d=true:=by
 unfold mapOf at h;split at h
 .rename_i k' e' hu;split at h
  .rename_i d hd;split at h<;>simp at h;rename_i hs;obtain⟨rfl,rfl⟩:=h;exact⟨hu,d,hd,hs⟩
  .cases h
 .cases h
theorem kI{k:TypeId}{d:TypeDesc}(hd:P.underlying k=some d)(hs:rN d=true)(em:Bool)(n:Nat)(v:Value):(Instr.checkKey em (n+1) k v).run P w=.ok () w:=by unfold Instr.checkKey;simp only[Sem.run_bind,run_underlying hd,Result.andThen_ok];cases d<;>simp[rN]at hs<;>rfl
theorem a4p{k:TypeId}{d:TypeDesc}{x:D}(hd:P.underlying k=some d)(h:uH P k x=true):tB d x=true:=by simpa[uH,hd]using h
theorem qQ{k:TypeId}{d:TypeDesc}(hd:P.underlying k=some d){u:Value}{l:List MapEntry}{r:Option (Nat×Value)}(h:Instr.findNow d u l 0=some r):(Instr.findKey k u l).run P w=.ok r w:=by simp[Instr.findKey,run_underlying hd,h]
theorem c7P{o:Oper}{t:TypeId}{m k:Operand}{ok:Bool}(ho:o.op=.lookup t m k ok)(h:a7t P G t m k ok st=some out):sV P G o st out:=by
 unfold a7t at h;split at h
 .rename_i kt e key kk hm hx hk;split at h
  .rename_i es z hg hz hf;simp only[g0V]at h;obtain⟨r,e9U,rfl⟩:=h;obtain⟨hu,d,hd,hs⟩:=a9f hm;refine bO λbase R μ a w hr=>?_;obtain⟨_,_,qG,clock,hh,jZ,hev⟩:=hr.jR key _ hg;have hE:=vM.a5T jZ hev;have hzv:∃zv,(zeroValue e).run P w=.ok zv w/\V R w zv z:=by
    unfold c3R at hz;cases hi:P.info? e with
    |none=>simp[hi]at hz
    |some i=>
     cases hz0:i.zero with
     |none=>simp[hi,hz0]at hz
     |some zv=>simp[hi,hz0]at hz;have ht:=b5d (R:=R) (μ:=μ) (w:=w) zv;unfold isD at hz;split at hz<;>simp at hz;rename_i q hq;subst hz;rw[hq]at ht;exact⟨zv,by simp[zeroValue,typeInfo,hi,hz0],ht.a9b⟩
   obtain⟨zv,hz1,hz2⟩:=hzv;have fin:∀(v:Value) (b:Bool),V R w v (r.getD z)->r.isSome=b->∃x,(if ok then Value.tuple #[v,.bool b] else v)=x/\TV R μ w x (if ok then .cI [r.getD z,.bool r.isSome] else .d (r.getD z)):=λv b hv hb=>by
    refine⟨_,rfl,?_⟩;cases ok
    .exact .d _ _ hv
    .refine .cI _ _ rfl (λi d hi=>?_)
     match i,hi with
     |0,hi=>simp at hi;subst hi;exact hv
     |1,hi=>simp at hi;subst hi;subst hb;exact .bool _
     |n+2,hi=>simp at hi
   rcases b5k (hr.mF hk) (a4p hd hf) qG.toList es 0 r hE e9U with⟨rfl,h1⟩|⟨i,en,k',v,rfl,h1,h2,h3⟩
   .obtain⟨x,hx1,yJ⟩:=fin zv false hz2 rfl;refine⟨x,?_,yJ,trivial⟩;simp[execOp,ho,Instr.lookup,run_underlying hu,hr.a9d hx,wG (P:=P) hh,kI (P:=P) (w:=w) hd hs,qQ (P:=P) (w:=w) hd h1,hz1, <- hx1]
   .obtain⟨x,hx1,yJ⟩:=fin en.val true (hE.2 i en k' v h2 h3).2 rfl;refine⟨x,?_,yJ,trivial⟩;simp[execOp,ho,Instr.lookup,run_underlying hu,hr.a9d hx,wG (P:=P) hh,kI (P:=P) (w:=w) hd hs,qQ (P:=P) (w:=w) hd h1, <- hx1]
  .cases h
 .cases h
end
end Go.VM
namespace Go.VM
open Go Go.RowKit
section
variable {P:Program} {G:GT} {st:St} {out:Out}
variable {base:dH} {R:Nat->Nat->Prop} {μ:Nat->Nat} {a:Act} {w w':World}
theorem Rel.c1t(h:Rel P G base R μ st a w){k:Nat}{o:bD}(hk:getKey k st.H=some o)(hos:w'.os=w.os)(htp:w'.tape=w.tape)(uJ:w'.output=w.output)(jZ:w'.heap.size=w.heap.size)(hb:∀j,j≠μ k->w'.heap[j]? =w.heap[j]?):Step base R w R w':=by obtain⟨h1,h2,_⟩:=h.jR k o hk;exact⟨⟨hos,htp,uJ,by omega,λj hj=>hb j λe=>hj (e▸h1)⟩,λ_ _ h=>h,λ_ _ h h'=>absurd h h',λb off hr=>World.cell?_of_block (hb b (by rintro rfl;exact h2 off hr))⟩
theorem Rel.setObj(h:Rel P G base R μ st a w){k:Nat}{o o':bD}(hk:getKey k st.H=some o)(hos:w'.os=w.os)(htp:w'.tape=w.tape)(uJ:w'.output=w.output)(jZ:w'.heap.size=w.heap.size)(hb:∀j,j≠μ k->w'.heap[j]? =w.heap[j]?)(hob:gL R μ w' (μ k) o'){eP:List (TypeId×List Loc)}(a8e:∀c∈eP,∀k off,Loc.c k off∈c.2->∃o,getKey k st.H=some o)(mN:∃vs,a1w P base R μ {st with H:=bU k o' st.H,own:=eP} a w' vs):
  Rel P G base R μ {st with H:=bU k o' st.H,own:=eP} a w'/\Step base R w R w':=by
 have hs:=h.c1t hk hos htp uJ jZ hb;have hex:∀k' o1,getKey k' (bU k o' st.H)=some o1->∃o2,getKey k' st.H=some o2:=λk' o1 h1=>by
  rw[jA]at h1;by_cases wE:k=k'
  .subst wE;exact⟨o,hk⟩
  .rw[if_neg wE]at h1;exact⟨o1,h1⟩
 refine⟨⟨h.defers,h.size,λi v d hv hd=>(h.tmps i v d hv hd).bN hs,λk' o1 h1=>?_,λk1 k2 o1 o2 h1 h2 he=>?_,λc hc k' off hl=>?_,mN,h.vL.bN hs,λb off hr=>by rw[jZ];exact h.qP b off hr,by rw[jZ];exact h.base,h.pass⟩,hs⟩
 .simp only at h1;rw[jA]at h1;by_cases wE:k=k'
  .subst wE;rw[if_pos rfl]at h1;cases h1;obtain⟨q1,q2,_⟩:=h.jR k o hk;exact⟨q1,q2,hob⟩
  .rw[if_neg wE]at h1;obtain⟨q1,q2,q3⟩:=h.jR k' o1 h1;exact⟨q1,q2,q3.bN hs (hb _ λhe=>wE (h.inj k k' o o1 hk h1 he.symm))⟩
 .obtain⟨o3,h3⟩:=hex k1 o1 h1;obtain⟨o4,h4⟩:=hex k2 o2 h2;exact h.inj k1 k2 o3 o4 h3 h4 he
 .obtain⟨o1,h1⟩:=a8e c hc k' off hl;simp only;rw[jA];split
  .exact⟨_,rfl⟩
  .exact⟨o1,h1⟩
theorem a1w.d9Q(h:Rel P G base R μ st a w){k:Nat}{o o':bD}(hk:getKey k st.H=some o)(hb:∀j,j≠μ k->w'.heap[j]? =w.heap[j]?)(tS:∀off,w'.cell? ⟨μ k,off,none⟩=none):
  ∃vs,a1w P base R μ {st with H:=bU k o' st.H} a w' vs:=by
 obtain⟨vs,hl,h1,hap⟩:=h.own;refine⟨vs,hl,λi c v hc hv=>?_,hap⟩;have ho:=h1 i c v hc hv;have a3E:∀k' o1,getKey k' (bU k o' st.H)=some o1->∃o2,getKey k' st.H=some o2:=λk' o1 h1=>by
  rw[jA]at h1;by_cases wE:k=k'
  .subst wE;exact⟨o,hk⟩
  .rw[if_neg wE]at h1;exact⟨o1,h1⟩
 refine⟨λl hl u hu=>?_,ho.own.c9X (λg hg=>hb g λhe=>ho.keys k o hk (by rw[hg,he])) (λ_ _ _ h=>h),λk' o1 h1=>by obtain⟨o2,h2⟩:=a3E k' o1 h1;exact ho.keys k' o2 h2⟩;cases l with
 |t i=>exact ho.eC _ hl u hu
 |c k' off=>
  by_cases wE:k'=k
  .subst wE;simp only[cP]at hu;rw[tS]at hu;cases hu
  .obtain⟨o1,h1'⟩:=h.eC c (g1b hc) k' off hl;refine ho.eC _ hl u ?_;rw[<-hu];exact(World.cell?_of_block (hb _ λhe=>wE (h.inj k' k o1 o h1' hk he))).symm
theorem b8t{α:Type}(z:List α)(off:Nat)(vs:List α)(h:off+vs.length<=z.length)(k:Nat):(overwrite z off vs)[k]? =if k<off then z[k]? else if k<off+vs.length then vs[k-off]? else z[k]? :=by
 have a4n:min off z.length=off:=by omega
 simp only[overwrite,List.append_assoc];by_cases h1:k<off
 .rw[if_pos h1,g1h (by simp;omega),List.getElem?_take,if_pos h1]
 .rw[if_neg h1,g1e (by simp;omega)];simp only[List.length_take,a4n];by_cases h2:k<off+vs.length
  .rw[if_pos h2,g1h (by omega)]
  .rw[if_neg h2,g1e (by omega),g1p];congr 1;omega
theorem b8u{α:Type}(z:List α)(off:Nat)(vs:List α)(h:off+vs.length<=z.length):(overwrite z off vs).length=z.length:=by simp only[overwrite,List.length_append,List.length_take,List.length_drop];omega
theorem a4q(z:List Value)(off:Nat)(vs:List Value)(h:off+vs.length<=z.length)(k:Nat):(z.take off++vs++z.drop (off+vs.length))[k]? =if k<off then z[k]? else if k<off+vs.length then vs[k-off]? else z[k]? :=by
 have a4n:min off z.length=off:=by omega
 simp only[List.append_assoc];by_cases h1:k<off
 .rw[if_pos h1,g1h (by simp;omega),List.getElem?_take,if_pos h1]
 .rw[if_neg h1,g1e (by simp;omega)];simp only[List.length_take,a4n];by_cases h2:k<off+vs.length
  .rw[if_pos h2,g1h (by omega)]
  .rw[if_neg h2,g1e (by omega),g1p];congr 1;omega
theorem setRow_os(w:World)(g:Nat)(c:Array Value):(w.setRow g c).os=w.os/\(w.setRow g c).tape=w.tape/\(w.setRow g c).output=w.output/\(w.setRow g c).heap.size=w.heap.size:=⟨rfl,rfl,rfl,by simp[World.setRow]⟩
theorem d4o{v:Value}{d:DV}{ys:List DV}(h:TV R μ w v d)(hc:wB d=some ys)(h1:d.cell=true):ys.length=1/\v.cells=#[v]:=by
 cases h with
 |d v x h=>simp only[wB,g1c]at hc;subst hc;obtain⟨q1,q2⟩:=h.d1q (by simpa[DV.cell]using h1);exact⟨by rw[q2];rfl,q1⟩
 |undef v=>cases hc
 |it k=>cases hc
 |cI vs ds h1 h2=>cases hc
 |ptr k off=>cases hc;exact⟨rfl,rfl⟩
 |ep b o cs h=>cases hc;exact⟨rfl,rfl⟩
 |mp k=>cases hc;exact⟨rfl,rfl⟩
 |fn f=>cases hc;exact⟨rfl,rfl⟩
 |qF b=>cases hc;exact⟨rfl,rfl⟩
 |zY T=>cases hc
 |clo f vs cs h1 h2=>cases hc;exact⟨rfl,rfl⟩
 |ag vs cs q1 q2 q3 q4=>cases h1
theorem a7u{o:Oper}{t:TypeId}{ad x:Operand}(ho:o.op=.store t ad x)(h:sU P G t ad x st=some out):sV P G o st out:=by
 unfold sU at h;split at h
 .rename_i k off ys ha hx;split at h
  .rename_i cs hk;split at h
   .rename_i hc;obtain⟨hlen,eU,hle⟩:=hc;simp only[g1c]at h;subst h;intro base R μ a w hr;obtain⟨hbk,hnR,cur,T,hh,jZ,d4p,b4c⟩:=hr.jR k _ hk;have hv:=hr.eval x;obtain⟨rO,hvc⟩:=a3F hv hx;have jS:∀u∈(a.eval x).cells.toList,u.oneCell'=true:=λu hu=>by
     obtain⟨i,hi⟩:=g1n hu;have vJ:i<ys.length:=by rw[<-rO];simpa using (g0X.1 hi).1
     obtain⟨_,_,h2⟩:=hvc i ys[i] (by simp[vJ]);have:(a.eval x).cells.getD i undef=u:=by
      have:(a.eval x).cells[i]? =some u:=by simpa using hi
      simp[g0Y,this]
     rw[this]at h2;exact h2
    have mU:=run_storeCells_at P (μ k) off T (a.eval x).cells.toList 0 cur w hh (by rw[jZ];simp[rO];omega) jS;simp only[Nat.add_zero]at mU;have cW:(execOp a.eval o).run P w=.ok .skip (w.setRow (μ k) (cur.toList.take off++(a.eval x).cells.toList++cur.toList.drop (off+(a.eval x).cells.toList.length)).toArray):=by
     have hnn: ¬((a.eval x).cells.size≠P.cellsOf t):=by rw[rO,hlen];simp
     simp only[execOp,ho,Sem.run_bind,hr.dU ha,Instr.storeAt,Instr.sureAddr,storeVar,Sem.run_pure,Result.andThen_ok,qL (eL eU) w,if_neg hnn,mU]
    generalize hw':w.setRow (μ k) (cur.toList.take off++(a.eval x).cells.toList++cur.toList.drop (off+(a.eval x).cells.toList.length)).toArray=w' at cW;have aF:μ k<w.heap.size:=(g1f.1 hh).1;have b9z:w'.heap[μ k]? =some (.cells (cur.toList.take off++(a.eval x).cells.toList++cur.toList.drop (off+(a.eval x).cells.toList.length)).toArray T (0,0)):=by rw[<-hw'];exact setRow_heap w (μ k) cur _ T _ hh
    have a1C:∀j,j≠μ k->w'.heap[j]? =w.heap[j]? :=λj hj=>by rw[<-hw'];exact setRow_other w (μ k) j _ hj
    obtain⟨e1,e2,e3,e4⟩:=setRow_os w (μ k) (cur.toList.take off++(a.eval x).cells.toList++cur.toList.drop (off+(a.eval x).cells.toList.length)).toArray;rw[hw']at e1 e2 e3 e4;have d4q:=hr.c1t hk e1 e2 e3 e4 a1C;have pM:(a.eval x).cells.toList.length=ys.length:=by simpa using rO
    have kU:off+(a.eval x).cells.toList.length<=cur.toList.length:=by rw[pM];simp[jZ];omega
    have a5D:∀i,w'.cell? ⟨μ k,i,none⟩=if i<off then cur[i]? else if i<off+ys.length then(a.eval x).cells[i-off]? else cur[i]? :=λi=>by rw[cell_of_row w' _ _ _ T (0,0) b9z,List.getElem?_toArray,a4q _ _ _ kU,pM];simp
    have hob:gL R μ w' (μ k) (.cells (overwrite cs off ys)):=by
     refine⟨_,T,b9z,?_,λi d hi=>?_,b4c.overwrite (b0l hx) off⟩
     .rw[b8u _ _ _ hle, <- jZ];simp only[List.size_toArray,List.length_append,List.length_take,List.length_drop];rw[pM];simp;omega
     .rw[b8t _ _ _ hle]at hi;rw[g0Y,List.getElem?_toArray,a4q _ _ _ kU,pM];by_cases h1:i<off
      .rw[if_pos h1]at hi|-;have:=d4p i d hi;rw[g0Y]at this;exact⟨this.1,by simpa using this.2.bN d4q⟩
      .rw[if_neg h1]at hi|-;by_cases h2:i<off+ys.length
       .rw[if_pos h2]at hi|-;have:=hvc _ d hi;rw[g0Y]at this;exact⟨this.1,by simpa using this.2.1.bN d4q⟩
       .rw[if_neg h2]at hi|-;have:=d4p i d hi;rw[g0Y]at this;exact⟨this.1,by simpa using this.2.bN d4q⟩
    have d4r:∀k' o1,getKey k' (bU k (.cells (overwrite cs off ys)) st.H)=some o1->∃o2,getKey k' st.H=some o2:=λk' o1 h1=>by
     rw[jA]at h1;by_cases wE:k=k'
     .subst wE;exact⟨_,hk⟩
     .rw[if_neg wE]at h1;exact⟨o1,h1⟩
    have e3p:(∀c∈(if (st.eval G x).cell then eO (.c k off) (tM (st.eval G x) (wC x)) st.own else dropKey k st.own),∀k' a5W,Loc.c k' a5W∈c.2->∃o,getKey k' st.H=some o)/\
      ∃vs,a1w P base R μ {st with H:=bU k (.cells (overwrite cs off ys)) st.H,own:=if (st.eval G x).cell then eO (.c k off) (tM (st.eval G x) (wC x)) st.own else dropKey k st.own} a w' vs:=by
     obtain⟨vs,e5A⟩:=hr.own;have hsl:∀e u,qO P base R w e u->(∀k o,getKey k st.H=some o->bK u≠some (μ k))->qO P base R w' e u:=λe u hu hm=>hu.c9X (λg hg=>a1C g λhe=>hm k _ hk (by rw[hg,he])) (λ_ _ _ h=>h)
     by_cases hy:(st.eval G x).cell=true
     .simp only[hy,if_true];have hyc:ys.length=1/\(a.eval x).cells=#[a.eval x]:=d4o hv hx hy;have d1v:tM (st.eval G x) (wC x)=.no\/∃s,tM (st.eval G x) (wC x)=.al (.t s):=by
       unfold tM;split
       .cases x with
        |tmp s=>exact .inr ⟨s,rfl⟩
        |_=>exact .inl rfl
       .exact .inl rfl
      refine⟨λc hc k' a5W hl=>?_,?_⟩
      .obtain⟨i,hi⟩:=g1n hc;rcases d1v with ha'|⟨s,ha'⟩
       .rw[ha']at hi;obtain⟨c',hc',_,hm⟩:=rG hi;exact hr.eC c' (g1b hc') k' a5W ((hm _).1 hl).1
       .rw[ha']at hi;simp only[eO,reduceCtorEq,if_false]at hi;obtain⟨c',hc',_,hm⟩:=xG hi;rcases hm _ hl with hx'|⟨hx',_⟩
        .obtain⟨c0,yI,_,hm0⟩:=rG hc';exact hr.eC c0 (g1b yI) k' a5W ((hm0 _).1 hx').1
        .cases hx';exact⟨_,hk⟩
      .refine a1w.act (a':=a) (w':=w') (dst:=.c k off) (v:=a.eval x) (act:=tM (st.eval G x) (wC x)) hr.own rfl d4r (λc hc l hl f3O=>?_) (λu hu=>?_) hsl (hr.tM x)
       .cases l with
        |t i=>rfl
        |c k' a5W=>
         obtain⟨o1,h1⟩:=hr.eC c hc k' a5W hl;by_cases wE:k'=k
         .subst wE;have d1w:a5W≠off:=λhe=>f3O (by rw[he]);simp only[cP];rw[a5D,cell_of_row w _ _ cur T (0,0) hh];by_cases q1:a5W<off
          .rw[if_pos q1]
          .rw[if_neg q1,if_neg (by rw[hyc.1];omega)]
         .exact World.cell?_of_block (a1C _ λhe=>wE (hr.inj k' k o1 _ h1 hk he))
       .simp only[cP]at hu;rw[a5D,if_neg (by omega),if_pos (by rw[hyc.1];omega),hyc.2]at hu;simp at hu;exact hu.symm
     .simp only[hy];refine⟨λc hc k' a5W hl=>?_,vs,by simpa[dropKey]using e5A.len,λi c u hc hu=>?_,e5A.apart⟩
      .obtain⟨i,hi⟩:=g1n hc;obtain⟨c',hc',_,hm⟩:=a0c hi;exact hr.eC c' (g1b hc') k' a5W ((hm _).1 hl).1
      .obtain⟨c',hc',he,hm⟩:=a0c hc;have wD:=e5A.one i c' u hc' hu;refine⟨λl hl u' hu'=>?_,by rw[he];exact hsl _ u wD.own wD.keys,λk' o1 h1=>by obtain⟨o2,h2⟩:=d4r k' o1 h1;exact wD.keys k' o2 h2⟩;have hx':=(hm l).1 hl;refine wD.eC l hx'.1 u' ?_;cases l with
       |t i=>exact hu'
       |c k' a5W=>
        have wE:k'≠k:=by simpa[Loc.a0a]using hx'.2
        obtain⟨o1,h1⟩:=hr.eC c' (g1b hc') k' a5W hx'.1;rw[<-hu'];exact(World.cell?_of_block (a1C _ λhe=>wE (hr.inj k' k o1 _ h1 hk he))).symm
    obtain⟨mW,hs⟩:=hr.setObj hk e1 e2 e3 e4 a1C hob e3p.1 e3p.2;exact⟨Go.undef,w',R,μ,.inr ⟨cW,rfl⟩,mW,.cI #[] [] rfl (by simp),trivial,hs⟩
   .cases h
  .cases h
 .cases h
end
end Go.VM
namespace Go.VM
open Go Go.RowKit
section
variable {P:Program} {G:GT} {st:St} {out:Out}
variable {base:dH} {R:Nat->Nat->Prop} {μ:Nat->Nat} {a:Act} {w w':World}
theorem b4J{α:Type}{c:Prop}[Decidable c]{x y:α}(h:(if c then some x else none)=some y):c/\x=y:=by
 split at h
 .rename_i hc;exact⟨hc,by simpa using h⟩
 .cases h
theorem a5X{o:Oper}{d:Nat}{cs:List DV}{e:TypeId}(_hd:o.dst=some d)(h:∀base R μ a w,Rel P G base R μ st a w->∃vs:Array Value,(execOp a.eval o).run P w=.ok (.value (.pointer (some ⟨w.heap.size,0,none⟩))) (w.alloc (.cells vs e))/\vs.size=cs.length/\
  ∀(i:Nat) (x:DV),cs[i]? =some x->x.cell=true/\TV R μ w (vs.getD i undef) x)(hd':d<100000)(hm:∀x∈cs,mentions d x=false)(b4c:a4k e cs):sV P G o st ⟨.ptr d 0,.no,gK st d (.cells cs)⟩:=by
 intro base R μ a w hr;obtain⟨vs,h1,h2,h3⟩:=h base R μ a w hr;have hs:=Step.alloc (base:=base) R w (.cells vs e) hr.base hr.qP;obtain⟨mW,mU⟩:=hr.newObj d hd' (.cells cs) (.cells vs e) ⟨vs,e,heap_alloc_new w _,h2,λi x hi=>⟨(h3 i x hi).1,((h3 i x hi).2.bN hs).e3j (key:=d) (λk hk=>by simp[hk]) (hm x (g1b hi))⟩,b4c⟩;refine⟨_,_,R,_,.inl h1,mW,?_,trivial,mU⟩;have:=TV.ptr (R:=R) (μ:=λk=>if k=d then w.heap.size else μ k) (w:=w.alloc (.cells vs e)) d 0;simpa using this
theorem c7R{cs:List DV}(h:b4Z cs≠ .cells cs):∃T,cs=[.zY T,.d .aD]/\b4Z cs=.bld T false []:=by
 unfold b4Z at h|-;split at h
 .exact⟨_,rfl,rfl⟩
 .exact absurd rfl h
theorem c7S{t T:TypeId}{v:Value}(h:a2r t v=.zY T):v=.pointer none/\T=t:=by
 unfold a2r at h;split at h
 .cases h
 .split at h
  .rename_i hn;cases h;exact⟨b9x hn,rfl⟩
  .cases h
theorem c7T{t:TypeId}{v:Value}(h:a2r t v=.d .aD):v=.slice none 0 0:=by
 unfold a2r at h;split at h
 .rename_i x hx;cases h;unfold zZ at hx;split at hx<;>simp at hx
  rfl
 .split at h<;>cases h
theorem d1x{o:Oper}{d:Nat}{cs:List DV}{e:TypeId}{z:Value}(hd:o.dst=some d)(hd':d<100000)(ho:o.op=.alloc e)(hz1:(P.info? e).bind (·.zero)=some z)(hz2:z.cells.toList.map (a2r e)=cs)(hzo: ¬b4Z cs=.cells cs):
  sV P G o st ⟨.ptr d 0,.no,gK st d (b4Z cs)⟩:=by
 obtain⟨T,rI,hT⟩:=c7R hzo;rw[hT];rw[rI]at hz2;obtain⟨v0,v1,hzz⟩:∃v0 v1,z.cells=#[v0,v1]:=by
  have hl:=congrArg List.length hz2
  match hq:z.cells,hl with
  |⟨[p,q]⟩,_=>exact⟨p,q,rfl⟩
 rw[hzz]at hz2;simp only[List.map_cons,List.map_nil,List.cons.injEq,and_true]at hz2;obtain⟨rfl,rfl⟩:=c7S hz2.1;have h1:=c7T hz2.2;subst h1;intro base R μ a w hr;have hs:=Step.alloc (base:=base) R w (.cells #[.pointer none,.slice none 0 0] T) hr.base hr.qP;obtain⟨mW,mU⟩:=hr.newObj d hd' (.bld T false []) (.cells #[.pointer none,.slice none 0 0] T) ⟨_,_,_,heap_alloc_new w _,λ_=>⟨rfl,rfl⟩,rfl,.emp _ _,.inl rfl⟩;refine⟨.pointer (some ⟨w.heap.size,0,none⟩),_,R,_,.inl ?_,mW,?_,trivial,mU⟩
 .obtain⟨i',hi1,hi2⟩:=g1k.1 hz1;simp[execOp,ho,Instr.alloc,zeroValue,typeInfo,hi1,hi2,newVar,newRow,hzz]
 .have:=TV.ptr (R:=R) (μ:=λk=>if k=d then w.heap.size else μ k) (w:=w.alloc (.cells #[.pointer none,.slice none 0 0] T)) d 0;simpa using this
theorem b9A{o:Oper}{e:TypeId}(ho:o.op=.alloc e)(h:b1W P o.dst e st=some out):sV P G o st out:=by
 unfold b1W at h;split at h
 .rename_i d cs hd hz;obtain⟨hd',h⟩:=b4J h;subst h;refine a5X (e:=e) hd (λbase R μ a w hr=>?_) hd' (λx hx=>by obtain⟨y,_,rfl⟩:=List.mem_map.1 hx;rfl) (λT' hx=>by obtain⟨y,_,he⟩:=List.mem_map.1 hx;cases he);obtain⟨zv,h1,h2,h3⟩:=b5g (R:=R) hz w;refine⟨zv.cells,by simp[execOp,ho,Instr.alloc,h1,newVar,newRow],by simp[h2],λi x hi=>?_⟩;rw[g1g]at hi;obtain⟨y,hy,rfl⟩:=g0V.1 hi;exact⟨(h3 i y hy).1,.d _ _ (h3 i y hy).2⟩
 .rename_i d hd hz;split at h
  .rename_i cs hc;obtain⟨hd',h⟩:=b4J h;subst h;have qC:∀v:Value,(a2r e v).cell=true/\mentions d (a2r e v)=false:=λv=>by
    unfold a2r;split
    .rename_i x hx;exact⟨(yS (R:=λ_ _=>True) (w:=default) hx).2,rfl⟩
    .split<;>exact⟨rfl,rfl⟩
   unfold c3P at hc;obtain⟨z,hz1,hz2⟩:=g0V.1 hc;by_cases hzo:b4Z cs=.cells cs
   case neg=>exact d1x hd hd' ho hz1 hz2 hzo
   rw[hzo];refine a5X (e:=e) hd (λbase R μ a w hr=>?_) hd' (λx hx=>by rw[<-hz2]at hx;obtain⟨y,_,rfl⟩:=List.mem_map.1 hx;exact(qC y).2) (λT' hx=>by
    rw[<-hz2]at hx;obtain⟨y,_,he⟩:=List.mem_map.1 hx;unfold a2r at he;split at he
    .cases he
    .split at he
     .cases he;rfl
     .cases he)
   refine⟨z.cells,?_,by rw[<-hz2];simp,λi x hi=>?_⟩
   .obtain⟨i',hi1,hi2⟩:=g1k.1 hz1;simp[execOp,ho,Instr.alloc,zeroValue,typeInfo,hi1,hi2,newVar,newRow]
   .rw[<-hz2,g1g]at hi;obtain⟨y,hy,rfl⟩:=g0V.1 hi;refine⟨(qC y).1,?_⟩;have:z.cells.getD i undef=y:=by
     have:z.cells[i]? =some y:=by simpa using hy
     simp[g0Y,this]
    rw[this];unfold a2r;split
    .rename_i u hu;exact .d _ _ (yS hu).1
    .split
     .rename_i hn;rw[b9x hn];exact .zY _
     .exact .undef _
  .cases h
 .cases h
theorem d9R{o:Oper}{e:TypeId}{x:Operand}(ho:o.op=.box e x)(h:d9H G o.dst x st=some out):sV P G o st out:=by
 unfold d9H at h;split at h
 .rename_i d cs hd hx;split at h
  .rename_i hm;simp only[g1c]at h;subst h;simp only[g0W,decide_eq_true_eq]at hm;obtain⟨hd',hm⟩:=hm;refine a5X (e:=e) hd (λbase R μ a w hr=>?_) hd' (λx hx=>by have:=g0Z.1 hm x hx;simpa using this) (a4k.c3S (b0l hx));obtain⟨h1,h2⟩:=a3F (hr.eval x) hx;exact⟨(a.eval x).cells,by simp[execOp,ho,Instr.box,newVar,newRow],h1,λi c hi=>⟨(h2 i c hi).1,(h2 i c hi).2.1⟩⟩
  .cases h
 .cases h
theorem c4f{o:Oper}{t:TypeId}{r:Option Operand}(ho:o.op=.makeMap t r)(h:b0j o.dst r st=some out):sV P G o st out:=by
 unfold b0j at h;split at h
 .rename_i d hd;obtain⟨hd',h⟩:=b4J h;subst h;intro base R μ a w hr;obtain⟨mW,mU⟩:=hr.newObj d hd' (.map []) (.map #[] 0) ⟨#[],0,heap_alloc_new w _,rfl,by simp⟩;refine⟨.map (some w.heap.size),_,R,_,.inl (by simp[execOp,ho,Instr.makeMap]),mW,?_,trivial,mU⟩;have:=TV.mp (R:=R) (μ:=λk=>if k=d then w.heap.size else μ k) (w:=w.alloc (.map #[] 0)) d;simpa using this
 .cases h
theorem d1y{o:Oper}{t:TypeId}{x:Operand}(ho:o.op=.range t x)(h:c1o P G o.dst t x st=some out):sV P G o st out:=by
 unfold c1o at h;split at h
 .rename_i d s hd hu hx;obtain⟨hd',h⟩:=b4J h;subst h;intro base R μ a w hr;obtain⟨mW,mU⟩:=hr.newObj d hd' (.iter s 0) (.stringIter ⟨s.toArray⟩ 0) (heap_alloc_new w _);refine⟨.pointer (some ⟨w.heap.size,0,none⟩),_,R,_,.inl (by simp[execOp,ho,Instr.range,run_underlying hu,hr.b0n hx]),mW,?_,trivial,mU⟩;have:=TV.it (R:=R) (μ:=λk=>if k=d then w.heap.size else μ k) (w:=w.alloc (.stringIter ⟨s.toArray⟩ 0)) d;simpa using this
 .cases h
def rQ(w:World)(b:Nat)(o:Obj):World:={w with heap:=w.heap.setIfInBounds b o}
theorem b2Z{b:Nat}{o o':Obj}(h:w.heap[b]? =some o'):(rQ w b o).heap[b]? =some o:=by have aF:b<w.heap.size:=(g1f.1 h).1;simp[rQ,aF]
theorem c1u{b j:Nat}(o:Obj)(h:j≠b):(rQ w b o).heap[j]? =w.heap[j]? :=by simp[rQ,Ne.symm h]
theorem Rel.rQ(h:Rel P G base R μ st a w){k:Nat}{o o':bD}{ob old:Obj}(hk:getKey k st.H=some o)(hold:w.heap[μ k]? =some old)(hnc:∀c t f,ob≠ .cells c t f)(hob:∀w',Step base R w R w'->w'.heap[μ k]? =some ob->gL R μ w' (μ k) o'):
  Rel P G base R μ {st with H:=bU k o' st.H} a (rQ w (μ k) ob)/\Step base R w R (Go.VM.rQ w (μ k) ob):=by
 have jZ:(Go.VM.rQ w (μ k) ob).heap.size=w.heap.size:=by simp[Go.VM.rQ]
 have hb:∀j,j≠μ k->(Go.VM.rQ w (μ k) ob).heap[j]? =w.heap[j]? :=λj hj=>c1u ob hj;have hs:=h.c1t (w':=Go.VM.rQ w (μ k) ob) hk rfl rfl rfl jZ hb;refine h.setObj (w':=Go.VM.rQ w (μ k) ob) hk rfl rfl rfl jZ hb (hob _ hs (b2Z hold)) h.eC (a1w.d9Q h hk hb λoff=>?_);simp only[World.cell?,b2Z (o:=ob) hold];cases ob<;>first|rfl|exact absurd rfl (hnc _ _ _)
theorem a1D{b:Nat}{old ob:Obj}(h:w.heap[b]? =some old)(hnc:∀c t f,old≠ .cells c t f):(Go.setObj b ob).run P w=.ok () (rQ w b ob):=by cases old<;>first|exact absurd rfl (hnc _ _ _)|simp[Go.setObj,Sem.run,h,rQ]
theorem b5m{b:Nat}{old:Obj}(h:w.heap[b]? =some old)(hnc:∀c t f,old≠ .cells c t f):(Go.getObj b).run P w=.ok old w:=by
 simp only[Go.getObj,Sem.run,h]
 try (cases old<;>first|rfl|exact absurd rfl (hnc _ _ _))
theorem d4s{o:Oper}{x:Operand}{b:Bool}(ho:o.op=.next x b)(h:c9W G x b st=some out):sV P G o st out:=by
 unfold c9W at h;split at h
 .rename_i k hx;split at h
  .rename_i s pos hk;split at h
   .rename_i aF;simp only[g1c]at h;subst h;intro base R μ a w hr;obtain⟨_,_,hh⟩:=hr.jR k _ hk
    change w.heap[μ k]? =_ at hh
    obtain⟨mW,mU⟩:=hr.rQ (ob:=.stringIter ⟨s.toArray⟩ (pos+(Utf8.decode ⟨s.toArray⟩ pos).2)) (o':=.iter s (pos+(Utf8.decode ⟨s.toArray⟩ pos).2)) hk hh (by simp) (λw' _ h=>h);refine⟨.tuple #[.bool true,.int .i64 pos,.int .i32 (Utf8.decode ⟨s.toArray⟩ pos).1],_,R,μ,.inl ?_,mW,?_,trivial,mU⟩
    .simp[execOp,ho,hr.d4e hx,Instr.next,b5m (P:=P) hh (by simp),a4o,aF,a1D (P:=P) hh (by simp),goInt]
    .refine .cI _ _ rfl (λi d hi=>?_)
     match i,hi with
     |0,hi=>simp at hi;subst hi;exact .bool _
     |1,hi=>simp at hi;subst hi;exact .int _ _
     |2,hi=>simp at hi;subst hi;exact .int _ _
     |n+3,hi=>simp at hi
   .rename_i aF;simp only[g1c]at h;subst h;refine bO λbase R μ a w hr=>?_;obtain⟨_,_,hh⟩:=hr.jR k _ hk
    change w.heap[μ k]? =_ at hh
    refine⟨.tuple #[.bool false],?_,?_,trivial⟩
    .simp[execOp,ho,hr.d4e hx,Instr.next,b5m (P:=P) hh (by simp),a4o,aF]
    .refine .cI _ _ rfl (λi d hi=>?_)
     match i,hi with
     |0,hi=>simp at hi;subst hi;exact .bool _
     |n+1,hi=>simp at hi
  .cases h
 .cases h
theorem c4g{p q:D}{u v:Value}(hu:V R w u p)(hv:V R w v q)(h:a1s p q=some true)(n:Nat):Instr.sameBits n v u=true:=by
 unfold a1s at h;split at h
 .obtain rfl:=hu.uI;obtain rfl:=hv.uI;split at h<;>simp at h;rename_i wE;subst wE h;cases n<;>simp[Instr.sameBits]
 .obtain rfl:=hu.pW;obtain rfl:=hv.pW;simp at h;subst h;cases n<;>simp[Instr.sameBits,d0b]
 .obtain rfl:=hu.xH;obtain rfl:=hv.xH;simp at h;subst h;cases n<;>simp[Instr.sameBits]
 .cases h
theorem b5n{d:TypeDesc}{k x:D}{u v:Value}(hu:V R w u k)(hx:V R w v x)(hf:tB d k=true):∀(l:List MapEntry) (es es':List (D×D)) (n:Nat),vM R w l es->a7p k x es=some es'->
  (Instr.findNow d u l n=some none/\∀born,vM R w (l++[⟨u,v,born⟩]) es')\/
  ∃(i:Nat) (e:MapEntry),Instr.findNow d u l n=some (some (n+i,e.val))/\l[i]? =some e/\Instr.sameBits 10000 e.key u=true/\vM R w (l.set i {e with key:=u,val:=v}) es'
 |[],[],es',n,_,h=>by
  simp[a7p]at h;subst h;refine .inl ⟨rfl,λborn=>⟨rfl,λi e k' v' he hk=>?_⟩⟩
  match i,he,hk with
  |0,he,hk=>simp at he hk;obtain⟨rfl,rfl⟩:=hk;subst he;exact⟨hu,hx⟩
  |i+1,he,hk=>simp at he
 |[],_::_,_,_,he,_=>by simp[vM]at he
 |_::_,[],_,_,he,_=>by simp[vM]at he
 |e::l,(k',v')::es,es',n,he,h=>by
  have h0:=he.2 0 e k' v' rfl rfl;simp only[a7p]at h;split at h
  .rename_i hq;simp at h;subst h;refine .inr ⟨0,e,by simp[Instr.findNow,rP hu h0.1 hf hq],rfl,c4g hu h0.1 hq _,?_⟩;refine⟨by simpa using he.1,λi e' k1 v1 h1 h2=>?_⟩
   match i,h1,h2 with
   |0,h1,h2=>simp at h1 h2;obtain⟨rfl,rfl⟩:=h2;subst h1;exact⟨hu,hx⟩
   |i+1,h1,h2=>exact he.2 (i+1) e' k1 v1 (by simpa using h1) (by simpa using h2)
  .rename_i hq;split at h<;>simp at h;rename_i r' gD;subst h;have cons:∀ {l':List MapEntry} {r:List (D×D)},vM R w l' r->vM R w (e::l') ((k',v')::r):=λ{l' r} hE=>⟨by simp[hE.1],λi e' k1 v1 h1 h2=>by
    match i,h1,h2 with
    |0,h1,h2=>simp at h1 h2;obtain⟨rfl,rfl⟩:=h2;subst h1;exact h0
    |i+1,h1,h2=>exact hE.2 i e' k1 v1 (by simpa using h1) (by simpa using h2)⟩
   rcases b5n hu hx hf l es r' (n+1) he.tail gD with⟨h1,h2⟩|⟨i,e',h1,h2,h3,h4⟩
   .exact .inl ⟨by simp[Instr.findNow,rP hu h0.1 hf hq,h1],λborn=>by simpa using cons (h2 born)⟩
   .exact .inr ⟨i+1,e',by simp[Instr.findNow,rP hu h0.1 hf hq,h1];omega,by simpa using h2,h3,by simpa using cons h4⟩
  .cases h
theorem gL.b4K{b:Nat}{qG:Array MapEntry}{clock:Nat}{es:List (D×D)}(hb:w.heap[b]? =some (.map qG clock))(h:vM R w qG.toList es):gL R μ w b (.map es):=
 ⟨qG,clock,hb,by simpa using h.1,λi k v hi=>by
  have vJ:i<qG.toList.length:=by rw[h.1];exact(g0X.1 hi).1
  have he:qG.toList[i]? =some (qG.toList[i]):=g1a vJ;have:=h.2 i _ k v he hi;have hg:qG.getD i default=qG.toList[i]:=by
   have h3:qG[i]? =some (qG.toList[i]):=by rw[<-Array.getElem?_toList];exact he
   rw[g0Y,h3];rfl
  rw[hg];exact this⟩
theorem vM.bN(hs:Step base R w R w'){l:List MapEntry}{es:List (D×D)}(h:vM R w l es):vM R w' l es:=⟨h.1,λi e k v h1 h2=>⟨(h.2 i e k v h1 h2).1.bN hs,(h.2 i e k v h1 h2).2.bN hs⟩⟩
theorem b8v{o:Oper}{t:TypeId}{m k x:Operand}(ho:o.op=.mapUpdate t m k x)(h:a1u P G t m k x st=some out):sV P G o st out:=by
 unfold a1u at h;split at h
 .rename_i kt et key kk xx hm hmx hk hx;split at h
  .rename_i es hg hf;simp only[g0V]at h;obtain⟨es',d4u,rfl⟩:=h;obtain⟨hu,d,hd,hs⟩:=a9f hm;intro base R μ a w hr;obtain⟨_,_,qG,clock,hh,jZ,hev⟩:=hr.jR key _ hg;have hE:=vM.a5T jZ hev;rcases b5n (hr.mF hk) (hr.mF hx) (a4p hd hf) qG.toList es es' 0 hE d4u with⟨h1,h2⟩|⟨i,e,h1,h2,h3,h4⟩
   .obtain⟨mW,mU⟩:=hr.rQ (ob:=.map (qG.push ⟨a.eval k,a.eval x,clock⟩) (clock+1)) (o':=.map es') hg hh (by simp)
     (λw' rE hb=>gL.b4K hb ((by simpa using h2 clock:vM R w (qG.push ⟨a.eval k,a.eval x,clock⟩).toList es').bN rE))
    refine⟨Go.undef,_,R,μ,.inr ⟨?_,rfl⟩,mW,.cI #[] [] rfl (by simp),trivial,mU⟩;simp[execOp,ho,Instr.mapUpdate,run_underlying hu,hr.a9d hmx,wG (P:=P) hh,kI (P:=P) (w:=w) hd hs,qQ (P:=P) (w:=w) hd h1,a1D (P:=P) hh (by simp)]
   .have vJ:i<qG.size:=by simpa using (g0X.1 h2).1
    have hei:qG[i]? =some e:=by simpa using h2
    have f3P:(qG.modify i λe=>{e with key:=a.eval k,val:=a.eval x}).toList=qG.toList.set i {e with key:=a.eval k,val:=a.eval x}:=by
     apply List.ext_getElem?;intro j;rw[Array.getElem?_toList,Array.getElem?_modify,List.getElem?_set];by_cases hij:i=j
     .subst hij;have:qG[i]=e:=by simpa[vJ]using hei
      simp[vJ,this]
     .simp[hij]
    obtain⟨mW,mU⟩:=hr.rQ (ob:=.map (qG.modify i λe=>{e with key:=a.eval k,val:=a.eval x}) clock) (o':=.map es') hg hh (by simp)
     (λw' rE hb=>gL.b4K hb ((by rw[f3P];exact h4:vM R w (qG.modify i λe=>{e with key:=a.eval k,val:=a.eval x}).toList es').bN rE))
    refine⟨Go.undef,_,R,μ,.inr ⟨?_,rfl⟩,mW,.cI #[] [] rfl (by simp),trivial,mU⟩;have hkt:(Instr.keyThatStays e.key (a.eval k)).run P w=.ok (a.eval k) w:=by simp[Instr.keyThatStays,h3]
    simp only[Nat.zero_add]at h1;simp[execOp,ho,Instr.mapUpdate,run_underlying hu,hr.a9d hmx,wG (P:=P) hh,kI (P:=P) (w:=w) hd hs,qQ (P:=P) (w:=w) hd h1,hei,hkt,a1D (P:=P) hh (by simp)]
  .cases h
 .cases h
theorem b5o{d:TypeDesc}{k:D}{u:Value}(hu:V R w u k)(hf:tB d k=true):∀(l:List MapEntry) (es es':List (D×D)) (n:Nat),vM R w l es->a7q k es=some es'->
  (Instr.findNow d u l n=some none/\vM R w l es')\/∃(i:Nat) (e:MapEntry),Instr.findNow d u l n=some (some (n+i,e.val))/\i<l.length/\vM R w (l.eraseIdx i) es'
 |[],[],es',n,he,h=>by simp[a7q]at h;subst h;exact .inl ⟨rfl,he⟩
 |[],_::_,_,_,he,_=>by simp[vM]at he
 |_::_,[],_,_,he,_=>by simp[vM]at he
 |e::l,(k',v')::es,es',n,he,h=>by
  have h0:=he.2 0 e k' v' rfl rfl;simp only[a7q]at h;split at h
  .rename_i hq;simp at h;subst h;exact .inr ⟨0,e,by simp[Instr.findNow,rP hu h0.1 hf hq],by simp,he.tail⟩
  .rename_i hq;split at h<;>simp at h;rename_i r' gD;subst h;have cons:∀ {l':List MapEntry} {r:List (D×D)},vM R w l' r->vM R w (e::l') ((k',v')::r):=λ{l' r} hE=>⟨by simp[hE.1],λi e' k1 v1 h1 h2=>by
    match i,h1,h2 with
    |0,h1,h2=>simp at h1 h2;obtain⟨rfl,rfl⟩:=h2;subst h1;exact h0
    |i+1,h1,h2=>exact hE.2 i e' k1 v1 (by simpa using h1) (by simpa using h2)⟩
   rcases b5o hu hf l es r' (n+1) he.tail gD with⟨h1,h2⟩|⟨i,e',h1,h2,h4⟩
   .exact .inl ⟨by simp[Instr.findNow,rP hu h0.1 hf hq,h1],cons h2⟩
   .exact .inr ⟨i+1,e',by simp[Instr.findNow,rP hu h0.1 hf hq,h1];omega,by simpa using h2,by simpa using cons h4⟩
  .cases h
theorem c7U{o:Oper}{t:TypeId}{ts:Array TypeId}{m k:Operand}(ho:o.op=.call {callee:=.builtin .delete,args:=#[m,k],argTypes:=ts})(ht:ts[0]? =some t)(h:b4I P G t m k st=some out):sV P G o st out:=by
 unfold b4I at h;split at h
 .rename_i kt et key kk hm hmx hk;split at h
  .rename_i es hg hf;simp only[g0V]at h;obtain⟨es',d4u,rfl⟩:=h;obtain⟨hu,d,hd,hs⟩:=a9f hm;intro base R μ a w hr;obtain⟨_,_,qG,clock,hh,jZ,hev⟩:=hr.jR key _ hg;have hE:=vM.a5T jZ hev;rcases b5o (hr.mF hk) (a4p hd hf) qG.toList es es' 0 hE d4u with⟨h1,h2⟩|⟨i,e,h1,h2,h4⟩
   .obtain⟨mW,mU⟩:=hr.rQ (ob:=.map qG clock) (o':=.map es') hg hh (by simp) (λw' rE hb=>gL.b4K hb (h2.bN rE));refine⟨.tuple #[],_,R,μ,.inl ?_,mW,.cI #[] [] rfl (by simp),trivial,mU⟩;simp[execOp,ho,resolve,invoke,builtin,Builtin.delete_,ht,run_underlying hu,hr.a9d hmx,wG (P:=P) hh,kI (P:=P) (w:=w) hd hs,qQ (P:=P) (w:=w) hd h1,a1D (P:=P) hh (by simp)]
   .have vJ:i<qG.size:=by simpa using h2
    obtain⟨mW,mU⟩:=hr.rQ (ob:=.map (qG.eraseIdxIfInBounds i) clock) (o':=.map es') hg hh (by simp) (λw' rE hb=>gL.b4K hb ((by simpa[Array.eraseIdxIfInBounds,vJ]using h4:vM R w (qG.eraseIdxIfInBounds i).toList es').bN rE));refine⟨.tuple #[],_,R,μ,.inl ?_,mW,.cI #[] [] rfl (by simp),trivial,mU⟩;simp only[Nat.zero_add]at h1;simp[execOp,ho,resolve,invoke,builtin,Builtin.delete_,ht,run_underlying hu,hr.a9d hmx,wG (P:=P) hh,kI (P:=P) (w:=w) hd hs,qQ (P:=P) (w:=w) hd h1,a1D (P:=P) hh (by simp)]
  .cases h
 .cases h
end
end Go.VM
namespace Go.VM
open Go Go.RowKit
section
variable {P:Program} {G:GT} {st:St} {out:Out}
variable {base:dH} {R R':Nat->Nat->Prop} {μ:Nat->Nat} {a:Act} {w w':World}
theorem c4h(s:Nat):∀(ps:List (Nat×Value)) (k:Nat) (cs:Array Value),(∀(i:Nat) (p:Nat×Value),ps[i]? =some p->p.1=k+i/\p.2.cells.size=s)->(k+ps.length)*s<=cs.size->
  ∃wF,Instr.fill (λi=>some (i*s,s)) cs ps=some wF/\wF.size=cs.size/\(∀n,n<k*s->wF[n]? =cs[n]?)/\∀(i j:Nat) (p:Nat×Value),ps[i]? =some p->j<s->wF[(k+i)*s+j]? =p.2.cells[j]?
 |[],k,cs,_,_=>⟨cs,rfl,rfl,λ_ _=>rfl,by simp⟩
 |p::ps,k,cs,hp,hl=>by
  obtain⟨h1,h2⟩:=hp 0 p rfl;simp only[Nat.add_zero]at h1;have hk:k*s+s<=cs.size:=by have:(k+1)*s<=(k+(p::ps).length)*s:=Nat.mul_le_mul_right _ (by simp only[List.length_cons];omega);rw[Nat.add_mul,Nat.one_mul]at this;omega
  have d4v:(decide (p.2.cells.size≠s)||decide (p.1*s+p.2.cells.size>cs.size))=false:=by rw[h1,h2];simp;omega
  have c3Y:Instr.fill (λi=>some (i*s,s)) cs (p::ps)=Instr.fill (λi=>some (i*s,s)) ((p.2.cells.toList.zipIdx 0).foldl (λcs (x:Value×Nat)=>cs.setIfInBounds (p.1*s+x.2) x.1) cs) ps:=by obtain⟨i,v⟩:=p;simp only[Instr.fill,d4v,Bool.false_eq_true,if_false];congr 1;rw[<-Array.foldl_toList,Array.toList_zipIdx]
  have a5D:∀n,((p.2.cells.toList.zipIdx 0).foldl (λcs (x:Value×Nat)=>cs.setIfInBounds (p.1*s+x.2) x.1) cs)[n]? =if k*s<=n/\n<k*s+s/\n<cs.size then p.2.cells[n-k*s]? else cs[n]? :=λn=>by rw[zR,h1];simp[h2]
  obtain⟨wF,q1,q2,q3,q4⟩:=c4h s ps (k+1) ((p.2.cells.toList.zipIdx 0).foldl (λcs (x:Value×Nat)=>cs.setIfInBounds (p.1*s+x.2) x.1) cs) (λi p' hi=>by have:=hp (i+1) p' (by simpa using hi);exact⟨by omega,this.2⟩) (by rw[fold_size];simp at hl;rwa[show k+1+ps.length=k+(ps.length+1) by omega])
  refine⟨wF,by rw[c3Y];exact q1,by rw[q2,fold_size],λn hn=>?_,λi j p' hi hj=>?_⟩
  .rw[q3 n (by rw[Nat.add_mul];omega),a5D,if_neg (by omega)]
  .cases i with
   |zero=>simp at hi;subst hi;rw[Nat.add_zero,q3 _ (by rw[Nat.add_mul];omega),a5D,if_pos ⟨by omega,by omega,by omega⟩];congr 1;omega
   |succ i=>
    have:=q4 i j p' (by simpa using hi) hj
    rwa[show k+1+i=k+(i+1) by omega]at this
theorem Rel.newRow(h:Rel P G base R μ st a w){w1:World}(hw1:w1=w\/w1=w.drew){e:TypeId}{cs:Array Value}{es:List (List D)}{n cap:Nat}(jZ:cs.size=cap*P.cellsOf e)(hs:0<P.cellsOf e)(hn:n=es.length)(b5h:n<=cap)(e5B:cap<=maxLen)(hlen:∀c∈es,c.length=P.cellsOf e)(rI:∀(i j:Nat) (c:List D) (d:D),es[i]? =some c->c[j]? =some d->d.one=true/\∃v,cs[i*P.cellsOf e+j]? =some v/\V R w v d):
  Rel P G base (λb o=>R b o\/(b=w.heap.size/\o<n*P.cellsOf e)) μ st a (w1.alloc (.cells cs e))/\
  Step base R w (λb o=>R b o\/(b=w.heap.size/\o<n*P.cellsOf e)) (w1.alloc (.cells cs e))/\
  V (λb o=>R b o\/(b=w.heap.size/\o<n*P.cellsOf e)) (w1.alloc (.cells cs e)) (.slice (some ⟨w.heap.size,0,none⟩) n cap) (.sl es)/\
  a5R P base (λb o=>R b o\/(b=w.heap.size/\o<n*P.cellsOf e)) μ st a (w1.alloc (.cells cs e)) (.slice (some ⟨w.heap.size,0,none⟩) n cap) (.fresh e):=by
 have b9z:w1.heap=w.heap:=by rcases hw1 with rfl|rfl<;>rfl
 have hos:w1.os=w.os/\w1.tape=w.tape/\w1.output=w.output:=by rcases hw1 with rfl|rfl<;>exact⟨rfl,rfl,rfl⟩
 have b8w:(w1.alloc (.cells cs e)).heap[w.heap.size]? =some (.cells cs e (0,0)):=by rw[<-b9z];exact heap_alloc_new w1 _
 have hold:∀k,k<w.heap.size->(w1.alloc (.cells cs e)).heap[k]? =w.heap[k]? :=λk hk=>by rw[<-b9z]at hk|-;exact Below.heap_alloc w1 _ k hk
 have xK:(w1.alloc (.cells cs e)).heap.size=w.heap.size+1:=by simp[b9z]
 have mU:Step base R w (λb o=>R b o\/(b=w.heap.size/\o<n*P.cellsOf e)) (w1.alloc (.cells cs e)):=
  ⟨⟨hos.1,hos.2.1,hos.2.2,by omega,λk hk=>hold k (Nat.lt_of_not_le λhx=>hk (h.base k hx))⟩,λ_ _ h=>.inl h,λb o hr hn=>by
   rcases hr with hr|⟨rfl,_⟩
   .exact absurd hr hn
   .exact h.base _ (g1m _),λb o hr=>World.cell?_of_block (hold b (h.qP b o hr))⟩
 have mW:=h.step mU hold (λb o hr hn=>by rcases hr with hr|⟨rfl,_⟩;exact absurd hr hn;exact g1m _) (λb o hr=>by
  rw[xK];rcases hr with hr|⟨rfl,_⟩
  .have:=h.qP b o hr;omega
  .omega)
 refine⟨mW,mU,?_,?_,?_,?_⟩
 .by_cases h0:n=0
  .have:es=[]:=List.eq_nil_of_length_eq_zero (by omega);rw[h0,this];exact .emp _ _
  .have qC:∀(i j:Nat) (c:List D) (d:D),es[i]? =some c->c[j]? =some d->∃v,(w1.alloc (.cells cs e)).cell? ⟨w.heap.size,0+i*P.cellsOf e+j,none⟩=some v/\V R w v d:=λi j c d hi hj=>by obtain⟨_,v,h2,h3⟩:=rI i j c d hi hj;exact⟨v,by rw[Nat.zero_add,cell_of_row _ _ _ cs e (0,0) b8w];exact h2,h3⟩
   refine .sl w.heap.size 0 n cap (P.cellsOf e) es (λi j=>((w1.alloc (.cells cs e)).cell? ⟨w.heap.size,0+i*P.cellsOf e+j,none⟩).getD undef) hn b5h hs hlen (λi j hi hj=>⟨.inr ⟨rfl,?_⟩,?_⟩) (λi j c d hi hj=>(rI i j c d hi hj).1) (λi j c d hi hj=>?_)
   .have:(i+1)*P.cellsOf e<=n*P.cellsOf e:=Nat.mul_le_mul_right _ (by omega);rw[Nat.add_mul]at this;omega
   .have vJ:i<es.length:=by omega
    have hei:es[i]? =some es[i]:=g1a vJ;have hjl:j<(es[i]).length:=by rw[hlen _ (g1b hei)];exact hj
    obtain⟨v,hv,_⟩:=qC i j es[i] (es[i])[j] hei (g1a hjl);rw[hv];rfl
   .obtain⟨v,hv,hvd⟩:=qC i j c d hi hj;rw[hv];exact hvd.bN mU
 .refine .inr ⟨w.heap.size,n,cap,cs,rfl,h.base _ (g1m _),b8w,b5h,e5B,jZ,λoff ho hr=>?_⟩;rcases hr with hr|⟨_,hr⟩
  .have:=h.qP _ _ hr;omega
  .omega
 .intro k o hk hsp;obtain⟨_,_,h3⟩:=h.jR k o hk;have:=h3.lt;simp only[bK]at hsp;split at hsp<;>simp at hsp;omega
 .obtain⟨vs,rO⟩:=h.own;refine⟨vs,rO.step h hold (λb o hb hr=>by rcases hr with hr|⟨rfl,_⟩;exact hr;omega),λv' hv'=>⟨λg hg hg'=>?_,λg hg hg'=>?_⟩⟩
  .have aF:=rO.lt hv' hg';simp only[bK]at hg;split at hg<;>simp at hg;omega
  .have aF:=rO.lt hv' hg;simp only[bK]at hg';split at hg'<;>simp at hg';omega
theorem a0d{e:TypeId}(h:jK P e=true):∃i z,P.info? e=some i/\i.size=P.cellsOf e/\i.bytes=P.bytesOf e/\0<P.cellsOf e/\i.zero=some z/\z.cells.size=P.cellsOf e:=by
 unfold jK at h;split at h
 .rename_i i hi;have h1:i.size=P.cellsOf e:=by simp[Program.cellsOf,hi]
  have h2:i.bytes=P.bytesOf e:=by simp[Program.bytesOf,hi]
  simp only[g0W,decide_eq_true_eq]at h;cases hz:i.zero with
  |none=>simp[hz]at h
  |some z=>simp[hz]at h;exact⟨i,z,hi,h1,h2,by omega,hz,by omega⟩
 .cases h
theorem a4r{t e:TypeId}(h:gR P t=some e):P.underlying t=some (.slice e):=by
 unfold gR at h;split at h
 .simp at h;subst h;assumption
 .cases h
theorem b5p{o:Oper}{t:TypeId}{len:Nat}{parts:Array (Nat×Operand)}(ho:o.op=.buildSlice t len parts)(h:tN P G t len parts st=some out):sV P G o st out:=by
 unfold tN at h;split at h
 .rename_i e ps he hps;split at h
  .rename_i hc;simp only[g0W,decide_eq_true_eq,beq_iff_eq]at hc;obtain⟨⟨⟨oI,d1z⟩,dR⟩,f3Q⟩:=hc;simp only[g1c]at h;subst h;obtain⟨i,z,hi,xK,a9g,a1E,hz,hzs⟩:=a0d oI;have hu:=a4r he;intro base R μ a w hr;obtain⟨hl,hp⟩:=a5V hr hps;have hpl:ps.length=len:=by have:=congrArg List.length d1z;simpa using this
   have d4x:∀q∈ps,q.2.cells.length=P.cellsOf e:=λq hq=>by simpa using g0Z.1 dR q hq
   have a5D:∀(i:Nat) (p:Nat×Value),(parts.toList.map λx=>(x.1,a.eval x.2))[i]? =some p->∃q,ps[i]? =some q/\p.1=i/\V R w p.2 q.2:=λi p hpi=>by
    have vJ:i<ps.length:=by rw[<-hl];have:=(g0X.1 hpi).1;simpa using this
    have hq:ps[i]? =some ps[i]:=g1a vJ;obtain⟨h1,h2⟩:=hp i p ps[i] hpi hq;refine⟨ps[i],hq,?_,h2⟩;have h3:(ps.map (·.1))[i]? =(List.range len)[i]? :=by rw[d1z]
    rw[g1g,hq,List.getElem?_range (by omega)]at h3;have h4:ps[i].1=i:=by simpa using h3
    omega
   obtain⟨wF,q1,q2,_,q4⟩:=c4h (P.cellsOf e) (parts.toList.map λx=>(x.1,a.eval x.2)) 0 ((Array.range (len*P.cellsOf e)).map λi=>(if len*P.cellsOf e=0 then(#[]:Array Value) else z.cells)[i%(if len*P.cellsOf e=0 then(#[]:Array Value) else z.cells).size]!)
    (λi p hpi=>by obtain⟨q,hq,h1,h2⟩:=a5D i p hpi;exact⟨by omega,by rw[h2.cells.1,d4x q (g1b hq)]⟩) (by simp[hl,hpl])
   have d4y:wF.size=len*P.cellsOf e:=by rw[q2];simp
   have hN:=hr.newRow (w1:=w) (.inl rfl) (e:=e) (cs:=wF) (es:=ps.map λp=>p.2.cells) (n:=len) (cap:=len) d4y a1E (by simp[hpl]) (g1m _)
    (by unfold maxLen;have:len*1<=len*P.cellsOf e:=Nat.mul_le_mul_left _ a1E;omega) (λc hc=>by simp only[List.mem_map]at hc;obtain⟨q,hq,rfl⟩:=hc;exact d4x q hq)
    (λi j c d hi hj=>by
     simp only[g1g,g0V]at hi;obtain⟨q,hq,rfl⟩:=hi;have vJ:i<parts.toList.length:=by rw[hl];exact(g0X.1 hq).1
     have hpi:(parts.toList.map λx=>(x.1,a.eval x.2))[i]? =some ((parts.toList[i]).1,a.eval (parts.toList[i]).2):=by rw[g1g,g1a vJ];rfl
     obtain⟨_,hv⟩:=hp i _ q hpi hq;obtain⟨v1,v2⟩:=hv.cells;have hjl:j<q.2.cells.length:=(g0X.1 hj).1;obtain⟨h1,h2⟩:=v2 j d hj;have:=q4 i j _ hpi (by rw[<-d4x q (g1b hq)];exact hjl);rw[Nat.zero_add]at this;refine⟨h1,_,?_,h2⟩;rw[this];have hjs:j<(a.eval (parts.toList[i]).2).cells.size:=by rw[v1];exact hjl
     rw[g0Y,g1o hjs];rfl)
   obtain⟨n1,n2,n3,n4⟩:=hN;refine⟨_,_,_,μ,.inl ?_,n1,.d _ _ n3,n4,n2⟩;have e9Y: ¬(len*P.cellsOf e>2 ^ 24):=by omega
   have e9Z:(parts.map λ(x:Nat×Operand)=>(x.1,a.eval x.2)).toList=parts.toList.map λx=>(x.1,a.eval x.2):=by simp
   have hso:=qL (P:=P) (t:=e) (by rw[hi];rfl) w;by_cases h0:len*P.cellsOf e=0
   .simp only[h0,if_true]at q1;simp only[execOp,ho,Instr.buildSlice,Sem.run_bind,run_underlying hu,Result.andThen_ok,hso,h0,gt_iff_lt,Nat.not_lt_zero,if_false,if_true,Sem.run_pure,e9Z,q1,newRow]
    rfl
   .simp only[h0,if_false]at q1;simp only[execOp,ho,Instr.buildSlice,Sem.run_bind,run_underlying hu,Result.andThen_ok,hso,if_neg e9Y,h0,if_false,Sem.run_pure,zeroValue,typeInfo,hi,hz,e9Z,q1,newRow,run_program]
    rfl
  .cases h
 .cases h
end
end Go.VM
namespace Go.VM
open Go Go.RowKit
section
variable {P:Program} {G:GT} {st:St} {out:Out}
variable {base:dH} {R R':Nat->Nat->Prop} {μ:Nat->Nat} {a:Act} {w w':World}
theorem b0o{b o size:Nat}{ys:List (List D)}(hlen:∀e∈ys,e.length=size)(cW:∀(i:Nat) (e:List D),ys[i]? =some e->Run R w b (o+i*size) e):
  ∃news:List Value,news.length=ys.length*size/\(∀(j:Nat) (u:Value),news[j]? =some u->w.cell? ((⟨b,o,none⟩:Addr).add j)=some u)/\(∀u∈news,u.oneCell'=true)/\
   ∀(i j:Nat) (c:List D) (d:D),ys[i]? =some c->c[j]? =some d->d.one=true/\∃v,news[i*size+j]? =some v/\V R w v d:=by
 have qC:∀n,n<ys.length*size->∃v d,w.cell? ⟨b,o+n,none⟩=some v/\d.one=true/\V R w v d/\∃c,ys[n/size]? =some c/\c[n%size]? =some d:=λn hn=>by
  have hs:0<size:=by
   rcases Nat.eq_zero_or_pos size with h|h
   .subst h;simp at hn
   .exact h
  have hi:n/size<ys.length:=by rw[Nat.div_lt_iff_lt_mul hs];exact hn
  have hei:ys[n/size]? =some ys[n/size]:=g1a hi;have hj:n%size<(ys[n/size]).length:=by rw[hlen _ (g1b hei)];exact Nat.mod_lt _ hs
  have hd:=g1a hj;obtain⟨h1,_,v,h3,h4⟩:=cW _ _ hei _ _ hd;have heq:o+n/size*size+n%size=o+n:=by have:=Nat.div_add_mod n size;rw[Nat.mul_comm]at this;omega
  rw[heq]at h3;exact⟨v,_,h3,h1,h4,_,hei,hd⟩
 refine⟨(List.range (ys.length*size)).map λn=>(w.cell? ⟨b,o+n,none⟩).getD undef,by simp,λj u hj=>?_,λu hu=>?_,λi j c d hi hj=>?_⟩
 .simp only[g1g,g0V]at hj;obtain⟨n,hn,rfl⟩:=hj;have aF:j<ys.length*size:=by simpa using (g0X.1 hn).1
  rw[List.getElem?_range aF]at hn;cases hn;obtain⟨v,d,h1,_⟩:=qC j aF;rw[oJ,h1];rfl
 .simp only[List.mem_map,List.mem_range]at hu;obtain⟨n,hn,rfl⟩:=hu;obtain⟨v,d,h1,h2,h3,_⟩:=qC n hn;rw[h1];exact h3.b0k h2
 .have vJ:i<ys.length:=(g0X.1 hi).1;have hjl:j<size:=by rw[<-hlen c (g1b hi)];exact(g0X.1 hj).1
  have aF:i*size+j<ys.length*size:=by have:(i+1)*size<=ys.length*size:=Nat.mul_le_mul_right _ vJ;rw[Nat.add_mul]at this;omega
  obtain⟨h1,_,v,h3,h4⟩:=cW i c hi j d hj;refine⟨h1,v,?_,h4⟩;rw[g1g,List.getElem?_range aF];simp only[Option.map_some];rw[show o+(i*size+j)=o+i*size+j by omega,h3];rfl
theorem b9B(hr:Rel P G base R μ st a w){x:Operand}{ys:List (List D)}(h:d9I (st.eval G x)=some ys):∃ao cap,a.eval x=.slice ao ys.length cap/\
  (ys≠[]->∃b o size,ao=some ⟨b,o,none⟩/\0<size/\(∀e∈ys,e.length=size)/\∀(i:Nat) (e:List D),ys[i]? =some e->Run R w b (o+i*size) e):=by
 unfold d9I at h;split at h
 .rename_i es hx;simp at h;subst h;obtain⟨ao,cap,h1,_,h3⟩:=(hr.mF hx).a0y;exact⟨ao,cap,h1,h3⟩
 .rename_i hx;simp at h;subst h;obtain⟨ao,h1⟩:=(hr.mF hx).kT;exact⟨ao,0,h1,λh=>absurd rfl h⟩
 .cases h
theorem b0p{l:Loc}:∀ {own:List (TypeId×List Loc)} {e:TypeId} {eP:List (TypeId×List Loc)},jD l own=some (e,eP)->∃pre c post,own=pre++c::post/\eP=pre++post/\c.1=e/\l∈c.2
 |[],e,eP,h=>by simp[jD]at h
 |c::r,e,eP,h=>by
  simp only[jD]at h;split at h
  .rename_i hc;simp at h;exact⟨[],c,r,rfl,h.2.symm,h.1,by simpa using hc⟩
  .simp only[g0V]at h;obtain⟨⟨e',r'⟩,hr,he⟩:=h;simp at he;obtain⟨pre,c',post,h1,h2,h3,h4⟩:=b0p hr;exact⟨c::pre,c',post,by simp[h1],by rw[<-he.2,h2];rfl,h3.trans he.1,h4⟩
theorem Rel.jD(h:Rel P G base R μ st a w){l:Loc}{e:TypeId}{eP:List (TypeId×List Loc)}(ht:Go.VM.jD l st.own=some (e,eP)):
  Rel P G base R μ {st with own:=eP} a w/\∃v vs,(∀u,cP a w μ l=some u->u=v)/\qO P base R w e v/\(∀k o,getKey k st.H=some o->bK v≠some (μ k))/\a1w P base R μ {st with own:=eP} a w vs/\∀v'∈vs,a5h v v'/\a5h v' v:=by
 obtain⟨pre,c,post,h1,rfl,h3,h4⟩:=b0p ht;obtain⟨vs,rO⟩:=h.own;have hpl:pre.length<vs.length:=by rw[rO.len,h1];simp
 have c7V:vs=vs.take pre.length++vs[pre.length]::vs.drop (pre.length+1):=by rw[<-g1j hpl,List.take_append_drop]
 have hc:=rO.one pre.length c vs[pre.length] (by rw[h1];simp) (g1a hpl);have hap:=rO.apart;rw[c7V,List.pairwise_append,List.pairwise_cons]at hap;have hO:a1w P base R μ {st with own:=pre++post} a w (vs.take pre.length++vs.drop (pre.length+1)):=by
  refine⟨?_,λi c' v hc' hv=>?_,?_⟩
  .have:=rO.len;rw[h1]at this;simp at this|-;omega
  .by_cases hi:i<pre.length
   .refine(λq=>⟨q.eC,q.own,q.keys⟩:a4l P base R μ st a w c' v->_) (rO.one i c' v ?_ ?_)
    .rw[h1,g1h hi];simpa[g1h hi]using hc'
    .rw[g1h (by simp;omega),List.getElem?_take]at hv;rw[if_pos hi]at hv;exact hv
   .refine(λq=>⟨q.eC,q.own,q.keys⟩:a4l P base R μ st a w c' v->_) (rO.one (i+1) c' v ?_ ?_)
    .rw[h1,g1e (by omega),show i+1-pre.length=(i-pre.length)+1 by omega,List.getElem?_cons_succ];simpa[g1e (Nat.le_of_not_lt hi)]using hc'
    .have a4n:min pre.length vs.length=pre.length:=by omega
     rw[g1e (by simp;omega),g1p]at hv;simp only[List.length_take,a4n]at hv
     rwa[show pre.length+1+(i-pre.length)=i+1 by omega]at hv
  .rw[List.pairwise_append];exact⟨hap.1,hap.2.1.2,λx hx y hy=>hap.2.2 x hx y (.tail _ hy)⟩
 refine⟨⟨h.defers,h.size,h.tmps,h.jR,h.inj,λc' hc' k off hl=>h.eC c' (by rw[h1];simp at hc' |-;rcases hc' with q|q<;>simp[q]) k off hl,⟨_,hO⟩,h.vL,h.qP,h.base,h.pass⟩,vs[pre.length],_,λu hu=>hc.eC l h4 u hu,by rw[<-h3];exact hc.own,hc.keys,hO,λv' hv'=>?_⟩;simp only[List.mem_append]at hv';rcases hv' with hv'|hv'
 .have:=hap.2.2 v' hv' vs[pre.length] (.head _);exact⟨λg hg hg'=>this g hg' hg,this⟩
 .have:=hap.2.1.1 v' hv';exact⟨this,λg hg hg'=>this g hg' hg⟩
theorem Rel.d0e(h:Rel P G base R μ st a w){g n m s:Nat}{e:TypeId}{cur cur':Array Value}(hgk:∀k o,getKey k st.H=some o->μ k≠g){vs:List Value}(rO:a1w P base R μ st a w vs)(hgv:∀v∈vs,bK v≠some g)(hb:base g)(hg:w.heap[g]? =some (.cells cur e (0,0)))(hR:∀off,n*s<=off-> ¬R g off)(d4p:∀off,off<n*s->cur'[off]? =cur[off]?):
  Rel P G base (λb o=>R b o\/(b=g/\o<(n+m)*s)) μ st a (w.setRow g cur')/\Step base R w (λb o=>R b o\/(b=g/\o<(n+m)*s)) (w.setRow g cur')/\
  a1w P base (λb o=>R b o\/(b=g/\o<(n+m)*s)) μ st a (w.setRow g cur') vs:=by
 have a1C:∀j,j≠g->(w.setRow g cur').heap[j]? =w.heap[j]? :=λj hj=>setRow_other w g j _ hj;have b8w:(w.setRow g cur').heap[g]? =some (.cells cur' e (0,0)):=setRow_heap w g cur _ e _ hg;have f3S:g<w.heap.size:=(g1f.1 hg).1;have mU:Step base R w (λb o=>R b o\/(b=g/\o<(n+m)*s)) (w.setRow g cur'):=
  ⟨⟨rfl,rfl,rfl,by simp[World.setRow],λk hk=>a1C k λe=>hk (e▸hb)⟩,λ_ _ h=>.inl h,λb o hr hn=>by
   rcases hr with hr|⟨rfl,_⟩
   .exact absurd hr hn
   .exact hb,λb o hr=>by
   by_cases hbg:b=g
   .subst hbg;have aF:o<n*s:=Nat.lt_of_not_le λhle=>hR o hle hr;rw[cell_of_row _ _ _ cur' e (0,0) b8w,cell_of_row _ _ _ cur e (0,0) hg,d4p o aF]
   .exact World.cell?_of_block (a1C b hbg)⟩
 have hO:a1w P base (λb o=>R b o\/(b=g/\o<(n+m)*s)) μ st a (w.setRow g cur') vs:=by
  refine⟨rO.len,λi c v hc hv=>?_,rO.apart⟩;have ho:=rO.one i c v hc hv;have eU:=hgv v (g1b hv);refine⟨λl hl u hu=>ho.eC l hl u ?_,ho.own.c9X (λg' hg'=>a1C g' (by rintro rfl;exact eU hg')) (λg' off hg' hr=>?_),ho.keys⟩
  .cases l with
   |t i=>exact hu
   |c k off=>obtain⟨o,hk⟩:=h.eC c (g1b hc) k off hl;rw[<-hu];exact(World.cell?_of_block (a1C _ (hgk k o hk))).symm
  .rcases hr with hr|⟨rfl,_⟩
   .exact hr
   .exact absurd hg' eU
 refine⟨⟨h.defers,h.size,λi v d hv hd=>(h.tmps i v d hv hd).bN mU,λk o hk=>?_,h.inj,h.eC,⟨vs,hO⟩,h.vL.bN mU,λb o hr=>?_,by have:=h.base;simpa[World.setRow]using this,h.pass⟩,mU,hO⟩
 .obtain⟨q1,q2,q3⟩:=h.jR k o hk;refine⟨q1,λoff hr=>?_,q3.bN mU (a1C _ (hgk k o hk))⟩;rcases hr with hr|⟨he,_⟩
  .exact q2 off hr
  .exact hgk k o hk he
 .have:b<w.heap.size:=by
   rcases hr with hr|⟨rfl,_⟩
   .exact h.qP b o hr
   .exact f3S
  simpa[World.setRow]using this
theorem a9h(hr:Rel P G base R μ st a w){e:TypeId}{z:Value}(hs:0<P.cellsOf e)(hzs:z.cells.size=P.cellsOf e){xs ys:List (List D)}{olds news:List Value}(old:Nat)(hb:xs.length+ys.length<=maxLen)(hlx:∀c∈xs,c.length=P.cellsOf e)(hly:∀c∈ys,c.length=P.cellsOf e)(sE:olds.length=xs.length*P.cellsOf e)(hln:news.length=ys.length*P.cellsOf e)(ho:∀(i j:Nat) (c:List D) (d:D),xs[i]? =some c->c[j]? =some d->d.one=true/\∃v,olds[i*P.cellsOf e+j]? =some v/\V R w v d)(hn:∀(i j:Nat) (c:List D) (d:D),ys[i]? =some c->c[j]? =some d->d.one=true/\∃v,news[i*P.cellsOf e+j]? =some v/\V R w v d)(cs:Array Value)(rI:cs=olds.toArray++news.toArray++Builtin.zeroCells z.cells (grownCap w (xs.length+ys.length) old e-(xs.length+ys.length))):
  ∃R',Rel P G base R' μ st a (w.drew.alloc (.cells cs e))/\Step base R w R' (w.drew.alloc (.cells cs e))/\
   V R' (w.drew.alloc (.cells cs e)) (.slice (some ⟨w.heap.size,0,none⟩) (xs.length+ys.length) (grownCap w (xs.length+ys.length) old e)) (.sl (xs++ys))/\
   a5R P base R' μ st a (w.drew.alloc (.cells cs e)) (.slice (some ⟨w.heap.size,0,none⟩) (xs.length+ys.length) (grownCap w (xs.length+ys.length) old e)) (.fresh e):=by
 have hge:=grownCap_ge w (xs.length+ys.length) old e;have e5B:=grownCap_le_maxLen w (xs.length+ys.length) old e hb;have jZ:cs.size=grownCap w (xs.length+ys.length) old e*P.cellsOf e:=by rw[rI];simp only[Array.size_append,List.size_toArray,size_zeroCells,hzs,sE,hln, <- Nat.add_mul];congr 1;omega
 have:=hr.newRow (w1:=w.drew) (.inr rfl) (e:=e) (cs:=cs) (es:=xs++ys) (n:=xs.length+ys.length) jZ hs (by simp) hge e5B
  (λc hc=>by simp at hc;rcases hc with hc|hc;exact hlx c hc;exact hly c hc) (λi j c d hi hj=>by
   by_cases vJ:i<xs.length
   .rw[g1h vJ]at hi;obtain⟨h1,v,h2,h3⟩:=ho i j c d hi hj;refine⟨h1,v,?_,h3⟩;have aF:=(g0X.1 h2).1;rw[rI,Array.getElem?_append,if_pos (by simp;omega),Array.getElem?_append,if_pos (by simpa using aF)];simpa using h2
   .rw[g1e (by omega)]at hi;obtain⟨h1,v,h2,h3⟩:=hn (i-xs.length) j c d hi hj;refine⟨h1,v,?_,h3⟩;have aF:=(g0X.1 h2).1;have d1z:i*P.cellsOf e+j=olds.length+((i-xs.length)*P.cellsOf e+j):=by rw[sE, <- Nat.add_assoc, <- Nat.add_mul];congr 2;omega
    rw[rI,d1z,Array.getElem?_append,if_pos (by simp;omega),Array.getElem?_append,if_neg (by simp)];simpa using h2)
 exact⟨_,this⟩
theorem c4j(hr:Rel P G base R μ st a w){t t' e:TypeId}{x:Operand}{ys:List (List D)}(hu:P.underlying t=some (.slice e))(a1E:0<P.cellsOf e)(h:c1p P t t' (st.eval G x)=some ys)(hly:∀c∈ys,c.length=P.cellsOf e):
  ∃news:List Value,Src P (P.cellsOf e) t' (a.eval x) ys.length news w/\∀(i j:Nat) (c:List D) (d:D),ys[i]? =some c->c[j]? =some d->d.one=true/\∃v,news[i*P.cellsOf e+j]? =some v/\V R w v d:=by
 unfold c1p at h;split at h
 .rename_i ht;subst ht;obtain⟨ao,cap,h1,h2⟩:=b9B hr h;by_cases eU:ys=[]
  .subst eU;refine⟨[],?_,by simp⟩;rw[h1];cases ao with
   |none=>exact Src.ofNil w hu cap
   |some ad=>exact Src.ofSlice w hu ad 0 cap [] (by simp) (by simp) (by simp)
  .obtain⟨b,off,size,rfl,q1,q2,q3⟩:=h2 eU;have jZ:size=P.cellsOf e:=by
    cases ys with
    |nil=>exact absurd rfl eU
    |cons c l=>rw[<-q2 c (.head _),hly c (.head _)]
   subst jZ;obtain⟨news,n1,n2,n3,n4⟩:=b0o q2 q3;refine⟨news,?_,n4⟩;rw[h1];exact Src.ofSlice w hu _ _ cap news n1 n2 n3
 .split at h
  .rename_i e' s hk he hx;have hee:e'=e:=by
    have:=a4r he;rw[hu]at this;cases this
    rfl
   subst hee;split at h
   .rename_i hc;cases h;refine⟨byteCells ⟨s.toArray⟩,?_,λi j c d hi hj=>?_⟩
    .rw[hr.b0n hx,hc.2];have:=Src.ofString w hk ⟨s.toArray⟩;simpa[ByteArray.size]using this
    .rw[g1g]at hi;obtain⟨b,hb,rfl⟩:=g0V.1 hi;cases j with
     |zero=>simp at hj;subst hj;refine⟨rfl,.int .u8 b.toNat,?_,.int _ _⟩;rw[hc.2];simp[byteCells,hb]
     |succ j=>simp at hj
   .cases h
  .cases h
theorem a5n{t t' e ty:TypeId}{i:TypeInfo}{x:Value}(hu:P.underlying t=some (.slice e))(hi:P.info? e=some i)(hs:Src P i.size t' x 0 [] w)(b:Option Addr)(n cap:Nat)(hn:n<=cap):
  (Builtin.append_ #[t,t'] ty #[.slice b n cap,x]).run P w=.ok (.slice b n cap) w:=by
 rcases hs.kind with⟨e',hk⟩|hk<;>cases b<;>simp[Builtin.append_,run_underlying hu,run_underlying hk,sizeOf,typeInfo,hi,hs.len,hn,hs.cells,storeCells]
theorem b2c{t t' ty e:TypeId}{i:TypeInfo}(ht:P.underlying t=some (.slice e))(hi:P.info? e=some i){g c7W e5E:Nat}{cur:Array Value}(hg:w.heap[g]? =some (.cells cur e (0,0))){x:Value}{m:Nat}{news:List Value}(hs:Src P i.size t' x m news w)(a5Z:c7W+m<=e5E)(kU:c7W*i.size+news.length<=cur.size):
  (Builtin.append_ #[t,t'] ty #[.slice (some ⟨g,0,none⟩) c7W e5E,x]).run P w=
   .ok (.slice (some ⟨g,0,none⟩) (c7W+m) e5E) (w.setRow g (cur.toList.take (c7W*i.size)++news++cur.toList.drop (c7W*i.size+news.length)).toArray):=by
 have mU:=run_storeCells_at P g (c7W*i.size) e news 0 cur w hg (by simpa using kU) hs.one;simp only[Nat.add_zero]at mU;rcases hs.kind with⟨e',hk⟩|hk<;>simp[Builtin.append_,run_underlying ht,run_underlying hk,sizeOf,typeInfo,hi,hs.len,a5Z,hs.cells,Addr.add_lit,mU]
theorem c7X{o:Oper}{t t':TypeId}{s x:Operand}(ho:o.op=.call {callee:=.builtin .append,args:=#[s,x],argTypes:=#[t,t']})(h:a4j P G t t' s x st=some out):sV P G o st out:=by
 unfold a4j at h;split at h
 case h_2=>cases h
 rename_i e ys he hys;split at h
 case isFalse=>cases h
 rename_i hc;obtain⟨oI,dR⟩:=hc;obtain⟨ti,z,hi,xK,a9g,a1E,hz,hzs⟩:=a0d oI;have hu:=a4r he;have hly:∀c∈ys,c.length=P.cellsOf e:=λc hc=>by simpa using g0Z.1 dR c hc
 have a6a:∀(a:Act) (w:World) (v:Value) (w':World),(Builtin.append_ #[t,t'] o.type #[a.eval s,a.eval x]).run P w=.ok v w'->(execOp a.eval o).run P w=.ok (.value v) w':=λa w v w' hr=>by simp[execOp,ho,resolve,invoke,builtin,hr]
 have b9C:∀ {base:dH} {R:Nat->Nat->Prop} {μ:Nat->Nat} {a:Act} {w:World},Rel P G base R μ st a w->∃news:List Value,Src P ti.size t' (a.eval x) ys.length news w/\∀(i j:Nat) (c:List D) (d:D),ys[i]? =some c->c[j]? =some d->d.one=true/\∃v,news[i*P.cellsOf e+j]? =some v/\V R w v d:=λhr=>by rw[xK];exact c4j hr hu a1E hys hly
 have e3q:∀ {news:List Value} {v:Value} {w:World},Src P ti.size t' v ys.length news w->ys=[]->news=[]:=λhs hy=>by have:=hs.newsLen;rw[hy]at this;exact List.eq_nil_of_length_eq_zero (by simpa using this)
 have b4c:∀(st':St) (eP:List (TypeId×List Loc)),st'={st with own:=eP}->ys.length*(P.bytesOf e+1)<=140737488355328->∀ {base:dH} {R:Nat->Nat->Prop} {μ:Nat->Nat} {a:Act} {w:World},Rel P G base R μ st a w->Rel P G base R μ st' a w->(∃ao,a.eval s=.slice ao 0 0)->
   ∃v w' R' μ',((execOp a.eval o).run P w=.ok (.value v) w'\/((execOp a.eval o).run P w=.ok .skip w'/\v=Go.undef))/\Rel P G base R' μ' st' a w'/\TV R' μ' w' v (.d (.sl ys))/\a5R P base R' μ' st' a w' v (.fresh e)/\Step base R w R' w':=by
  intro st' eP f7M hbd base R μ a w hr gD ⟨ao,hs⟩;obtain⟨news,b8x,h5⟩:=b9C hr;have h2:news.length=ys.length*P.cellsOf e:=by rw[b8x.newsLen,xK]
  by_cases eU:ys=[]
  .have hn0:=e3q b8x eU;subst eU;subst hn0;obtain⟨vs,rO⟩:=gD.own;refine⟨.slice ao 0 0,w,R,μ,.inl (a6a a w _ w ?_),gD,.d _ _ (.emp _ _),⟨.inl ⟨ao,rfl⟩,λk o _=>by cases ao<;>simp[bK],vs,rO,λv' _=>⟨λg hg=>by cases ao<;>simp[bK]at hg,λg _ hg=>by cases ao<;>simp[bK]at hg⟩⟩,.refl _ _ _⟩;rw[hs];exact a5n hu hi b8x ao 0 0 (g1m _)
  .have hlen:0<ys.length:=by cases ys with|nil=>exact absurd rfl eU|cons _ _=>simp
   have hb1:ys.length<=140737488355328:=by rw[Nat.mul_add]at hbd;omega
   have hb2:ys.length*P.bytesOf e<=140737488355328:=by rw[Nat.mul_add]at hbd;omega
   obtain⟨R',n1,n2,n3,n4⟩:=a9h gD (e:=e) (z:=z) a1E hzs (xs:=[]) (ys:=ys) (olds:=[]) (news:=news) 0 (by unfold maxLen;simp;omega) (by simp) hly (by simp) h2 (by simp) h5 _ rfl;simp only[List.length_nil,Nat.zero_add,List.nil_append]at n1 n2 n3 n4;refine⟨_,_,R',μ,.inl (a6a a w _ _ ?_),n1,.d _ _ n3,n4,n2⟩;rw[hs];have:=run_append_grow_src (P:=P) w t t' o.type e ti z hu hi hz ao 0 0 [] (by cases ao<;>simp[Builtin.firstCells,loadCells,loadCellsFrom]) (a.eval x) ys.length news b8x (by omega) (by omega) (by rw[a9g];exact growslice_fits (by omega) (by rw[Nat.zero_add];exact hb2));simpa using this
 split at h
 .rename_i hsn;split at h
  case isFalse=>cases h
  rename_i hbd;simp only[g1c]at h;subst h;intro base R μ a w hr;exact b4c st st.own rfl hbd hr hr ((hr.mF hsn).kT)
 .rename_i xs i hsx;split at h
  case h_2=>cases h
  rename_i e' eP htk;split at h
  case isFalse=>cases h
  rename_i hc;obtain⟨rfl,f0c,hbd⟩:=hc;simp only[g1c]at h;subst h;intro base R μ a w hr;obtain⟨gD,v0,vs,hv0,mN,a3E,rO,hap⟩:=hr.jD htk;have hsv:a.eval (.tmp i)=v0:=by
   refine hv0 _ ?_
   show a.tmps[i]? =some (a.tmps.getD i undef)
   by_cases hs:i<a.tmps.size
   .simp[hs]
   .have h3: ¬i<st.tmps.length:=by rw[<-hr.size];exact hs
    simp[St.eval,List.getD,List.getElem?_eq_none (Nat.le_of_not_lt h3)]at hsx
  have hV:=hr.mF hsx;have hlx:∀c∈xs,c.length=P.cellsOf e':=λc hc=>by simpa using g0Z.1 f0c c hc
  rcases mN with⟨ao,rfl⟩|⟨g,n,cap,cur,rfl,hbg,hg,hnc,hcm,rI,hnR⟩
  .have hx0:xs=[]:=by obtain⟨ao',d9O,h1,_⟩:=hV.a0y;rw[hsv]at h1;exact List.eq_nil_of_length_eq_zero (Value.slice.inj h1).2.1.symm
   subst hx0;simp only[List.length_nil,Nat.zero_add]at hbd;simpa using b4c {st with own:=eP} eP rfl hbd hr gD ⟨ao,hsv⟩
  .obtain⟨ao',d9O,h1,_,d4z⟩:=hV.a0y;rw[hsv]at h1;cases h1;have holds:∃olds:List Value,olds.length=xs.length*P.cellsOf e'/\(∀(j:Nat) (u:Value),olds[j]? =some u->w.cell? ((⟨g,0,none⟩:Addr).add j)=some u)/\
     ∀(i j:Nat) (c:List D) (d:D),xs[i]? =some c->c[j]? =some d->d.one=true/\∃v,olds[i*P.cellsOf e'+j]? =some v/\V R w v d:=by
    by_cases hx0:xs=[]
    .subst hx0;exact⟨[],by simp,by simp,by simp⟩
    .obtain⟨b,o',size,hba,q1,q2,q3⟩:=d4z hx0;cases hba;have jZ:size=P.cellsOf e':=by
      cases xs with
      |nil=>exact absurd rfl hx0
      |cons c l=>rw[<-q2 c (.head _),hlx c (.head _)]
     subst jZ;obtain⟨olds,n1,n2,_,n4⟩:=b0o q2 q3;exact⟨olds,n1,n2,n4⟩
   obtain⟨olds,o1,o2,o3⟩:=holds;have hb1:xs.length+ys.length<=140737488355328:=by rw[Nat.mul_add]at hbd;omega
   have hb2:(xs.length+ys.length)*P.bytesOf e'<=140737488355328:=by rw[Nat.mul_add]at hbd;omega
   obtain⟨news,b8x,h5⟩:=b9C hr;have h2:news.length=ys.length*P.cellsOf e':=by rw[b8x.newsLen,xK]
   by_cases eU:ys=[]
   .have hn0:=e3q b8x eU;subst eU;subst hn0;refine⟨.slice (some ⟨g,0,none⟩) xs.length cap,w,R,μ,.inl (a6a a w _ w ?_),gD,.d _ _ ?_,⟨.inr ⟨g,_,cap,cur,rfl,hbg,hg,hnc,hcm,rI,hnR⟩,a3E,vs,rO,hap⟩,.refl _ _ _⟩
    .rw[hsv];exact a5n hu hi b8x _ _ cap hnc
    .rw[List.append_nil, <- hsv];exact hV
   .have hlen:0<ys.length:=by cases ys with|nil=>exact absurd rfl eU|cons _ _=>simp
    by_cases a5Z:xs.length+ys.length<=cap
    .have hmul:(xs.length+ys.length)*P.cellsOf e'<=cap*P.cellsOf e':=Nat.mul_le_mul_right _ a5Z;have kU:xs.length*P.cellsOf e'+news.length<=cur.size:=by rw[h2,rI, <- Nat.add_mul];exact hmul
     have cW:=b2c (P:=P) (ty:=o.type) hu hi hg b8x a5Z (by rw[xK];exact kU);rw[xK]at cW;generalize c4l:(cur.toList.take (xs.length*P.cellsOf e')++news++cur.toList.drop (xs.length*P.cellsOf e'+news.length)).toArray=cur' at cW;have a5D:∀k,cur'[k]? =if k<xs.length*P.cellsOf e' then cur[k]? else if k<xs.length*P.cellsOf e'+news.length then news[k-xs.length*P.cellsOf e']? else cur[k]? :=λk=>by rw[<-c4l,List.getElem?_toArray,a4q _ _ _ (by simpa using kU)];simp
     have b4d:bK (.slice (some ⟨g,0,none⟩) xs.length cap)=some g:=by simp[bK];omega
     obtain⟨q1,q2,q3⟩:=gD.d0e (g:=g) (n:=xs.length) (m:=ys.length) (s:=P.cellsOf e') (cur':=cur') (λk o' hk he=>a3E k o' hk (by rw[b4d,he])) rO (λv' hv' hsp=>(hap v' hv').1 g b4d hsp) hbg hg hnR (λoff d1w=>by rw[a5D,if_pos d1w]);have b8w:(w.setRow g cur').heap[g]? =some (.cells cur' e' (0,0)):=setRow_heap w g cur _ e' _ hg;have d4y:cur'.size=cap*P.cellsOf e':=by rw[<-c4l, <- rI];simp only[List.size_toArray,List.length_append,List.length_take,List.length_drop,Array.length_toList];omega
     refine⟨.slice (some ⟨g,0,none⟩) (xs.length+ys.length) cap,_,_,μ,.inl (a6a a w _ _ (by rw[hsv];exact cW)),q1,.d _ _ ?_,?_,q2⟩
     .have qC:∀(i j:Nat) (c:List D) (d:D),(xs++ys)[i]? =some c->c[j]? =some d->d.one=true/\∃v,(w.setRow g cur').cell? ⟨g,0+i*P.cellsOf e'+j,none⟩=some v/\V R w v d:=λi j c d hi' hj=>by
       rw[Nat.zero_add,cell_of_row _ _ _ cur' e' (0,0) b8w,a5D];by_cases vJ:i<xs.length
       .rw[g1h vJ]at hi';obtain⟨w1,v,w2,w3⟩:=o3 i j c d hi' hj;have aF:=(g0X.1 w2).1;have b5q:=o2 _ v w2;rw[oJ,Nat.zero_add,cell_of_row _ _ _ cur e' (0,0) hg]at b5q;rw[if_pos (by omega)];exact⟨w1,v,b5q,w3⟩
       .rw[g1e (by omega)]at hi';obtain⟨w1,v,w2,w3⟩:=h5 (i-xs.length) j c d hi' hj;have aF:=(g0X.1 w2).1;have d1z:i*P.cellsOf e'+j=xs.length*P.cellsOf e'+((i-xs.length)*P.cellsOf e'+j):=by rw[<-Nat.add_assoc, <- Nat.add_mul];congr 2;omega
        rw[d1z,if_neg (by omega),if_pos (by omega),Nat.add_sub_cancel_left];exact⟨w1,v,w2,w3⟩
      refine .sl g 0 _ cap (P.cellsOf e') _ (λi j=>((w.setRow g cur').cell? ⟨g,0+i*P.cellsOf e'+j,none⟩).getD undef) (by simp) a5Z a1E (λc hc=>by simp at hc;rcases hc with hc|hc;exact hlx c hc;exact hly c hc) (λi j hi' hj=>⟨.inr ⟨rfl,?_⟩,?_⟩) (λi j c d hi' hj=>(qC i j c d hi' hj).1) (λi j c d hi' hj=>?_)
      .have:(i+1)*P.cellsOf e'<=(xs.length+ys.length)*P.cellsOf e':=Nat.mul_le_mul_right _ (by omega);rw[Nat.add_mul]at this;omega
      .have vJ:i<(xs++ys).length:=by simp;omega
       have hei:=g1a vJ;have hjl:j<((xs++ys)[i]).length:=by
        have hm:(xs++ys)[i]∈xs++ys:=List.getElem_mem vJ;rw[List.mem_append]at hm;rcases hm with hm|hm
        .rw[hlx _ hm];exact hj
        .rw[hly _ hm];exact hj
       obtain⟨_,v,hv,_⟩:=qC i j _ _ hei (g1a hjl);rw[hv];rfl
      .obtain⟨_,v,hv,hvd⟩:=qC i j c d hi' hj;rw[hv];exact hvd.bN q2
     .refine⟨.inr ⟨g,_,cap,cur',rfl,hbg,b8w,a5Z,hcm,d4y,λoff d1w hR=>?_⟩,λk o' hk=>by have:=a3E k o' hk;rw[b4d]at this;simpa[bK,show cap≠0 by omega]using this,vs,q3,λv' hv'=>?_⟩
      .rcases hR with hR|⟨_,hR⟩
       .have:xs.length*P.cellsOf e'<=(xs.length+ys.length)*P.cellsOf e':=Nat.mul_le_mul_right _ (by omega);exact hnR off (by omega) hR
       .omega
      .have d4A:bK (.slice (some ⟨g,0,none⟩) (xs.length+ys.length) cap)=some g:=by simp[bK];omega
       exact⟨λg' hg' c7Y=>(hap v' hv').1 g' (by rw[b4d, <- d4A];exact hg') c7Y,λg' hg' c7Y=>(hap v' hv').2 g' hg' (by rw[b4d, <- d4A];exact c7Y)⟩
    .obtain⟨R',n1,n2,n3,n4⟩:=a9h gD (e:=e') (z:=z) a1E hzs (xs:=xs) (ys:=ys) (olds:=olds) (news:=news) cap (by unfold maxLen;omega) hlx hly o1 h2 o3 h5 _ rfl;refine⟨_,_,R',μ,.inl (a6a a w _ _ ?_),n1,.d _ _ n3,n4,n2⟩;rw[hsv];have:=run_append_grow_src (P:=P) w t t' o.type e' ti z hu hi hz (some ⟨g,0,none⟩) xs.length cap olds (run_firstCells_some w.drew ti.size xs.length ⟨g,0,none⟩ xs.length cap olds (by rw[o1,xK]) (by simpa using o2)) (a.eval x) ys.length news b8x (by omega) (by omega) (by rw[a9g];exact growslice_fits (by omega) hb2);rw[this];congr 3;apply Array.ext';simp[List.append_assoc]
 .cases h
end
end Go.VM
namespace Go.VM
open Go Go.RowKit
def CH(P:Program)(G:GT)(f:FuncId)(s0 s1:St):Prop:=
 ∀(base:dH) (R:Nat->Nat->Prop) (μ:Nat->Nat) (args:Array Value) (w:World),Rel P G base R μ s0 {tmps:=args,defers:=[]} w->
  Calls P f args w λe w'=>∃v R' μ',e=.returned v/\Rel P G base R' μ' s1 {tmps:=#[v],defers:=[]} w'/\Step base R w R' w'
def rk:List (Nat×Nat)->Nat->Nat
 |[],k=>k
 |p::r,k=>if p.1=k then p.2 else rk r k
mutual
def bF (K:List (Nat×Nat)):DV->DV
 | .ptr k o=>.ptr (rk K k) o
 | .mp k=>.mp (rk K k)
 | .it k=>.it (rk K k)
 | .clo f cs=>.clo f (aR K cs)
 | .ag cs=>.ag (aR K cs)
 |d=>d
def aR (K:List (Nat×Nat)):List DV->List DV
 |[]=>[]
 |d::r=>bF K d::aR K r
end
mutual
def aQ (K:List (Nat×Nat)):DV->Bool
 | .ptr k _=>K.any λp=>p.1==k
 | .mp k=>K.any λp=>p.1==k
 | .it k=>K.any λp=>p.1==k
 | .clo _ cs=>aV K cs
 | .ag cs=>aV K cs
 |_=>true
def aV (K:List (Nat×Nat)):List DV->Bool
 |[]=>true
 |d::r=>aQ K d&&aV K r
end
def dD(K:List (Nat×Nat)):bD->bD
 | .cells cs=>.cells (aR K cs)
 |o=>o
def aW(K:List (Nat×Nat)):bD->Bool
 | .cells cs=>aV K cs
 |_=>true
theorem sG(K:List (Nat×Nat)):∀l,aR K l=l.map (bF K)
 |[]=>by simp[aR]
 |d::r=>by simp[aR,sG K r]
theorem tU(K:List (Nat×Nat)):∀l,aV K l=true↔∀d∈l,aQ K d=true
 |[]=>by simp[aV]
 |d::r=>by simp[aV,tU K r]
theorem a1F{K:List (Nat×Nat)}{k:Nat}(h:(K.any λp=>p.1==k)=true):∃p∈K,p.1=k/\rk K k=p.2:=by
 induction K with
 |nil=>simp at h
 |cons p r ih=>
  unfold rk;by_cases hp:p.1=k
  .exact⟨p,.head _,hp,by rw[if_pos hp]⟩
  .simp only[List.any_cons,g1i,beq_iff_eq,hp,false_or]at h;obtain⟨q,h1,h2,h3⟩:=ih h;exact⟨q,.tail _ h1,h2,by rw[if_neg hp];exact h3⟩
section
variable {P:Program} {G:GT} {R:Nat->Nat->Prop} {w:World} {K:List (Nat×Nat)} {μ ν:Nat->Nat}
theorem TV.ren{v:Value}{d:DV}(hν:∀k,(K.any λp=>p.1==k)=true->ν k=μ (rk K k)):aQ K d=true->TV R μ w v (bF K d)->TV R ν w v d:=by
 intro hk h;generalize he:bF K d=d' at h
 induction h generalizing d with
 |d v x h=>cases d<;>simp only[bF]at he<;>cases he;exact .d v x h
 |undef v=>cases d<;>simp only[bF]at he<;>cases he;exact .undef v
 |ptr k off=>cases d<;>simp only[bF]at he<;>cases he;rw[<-hν _ (by simpa[aQ]using hk)];exact .ptr _ off
 |ep b o cs h=>cases d<;>simp only[bF]at he<;>cases he;exact .ep b o cs h
 |mp k=>cases d<;>simp only[bF]at he<;>cases he;rw[<-hν _ (by simpa[aQ]using hk)];exact .mp _
 |it k=>cases d<;>simp only[bF]at he<;>cases he;rw[<-hν _ (by simpa[aQ]using hk)];exact .it _
 |cI vs ds h1 h2=>cases d<;>simp only[bF]at he<;>cases he;exact .cI vs ds h1 h2
 |fn f=>cases d<;>simp only[bF]at he<;>cases he;exact .fn f
 |qF b=>cases d<;>simp only[bF]at he<;>cases he;exact .qF b
 |zY T=>cases d<;>simp only[bF]at he<;>cases he;exact .zY T
 |clo f vs cs h1 h2 ih=>cases d<;>simp only[bF]at he<;>cases he;rename_i cs0;simp only[aQ,tU]at hk;rw[sG]at h1 ih;refine .clo f vs cs0 (by simpa using h1) λi c hi=>?_;exact ih i (bF K c) (by rw[g1g,hi];rfl) (hk c (g1b hi)) rfl
 |ag vs cs h1 h2 h3 h4 ih=>
  cases d<;>simp only[bF]at he<;>cases he;rename_i cs0;simp only[aQ,tU]at hk;rw[sG]at h1 h2 h3 ih;refine .ag vs cs0 (by simpa using h1) (λi hi=>h2 i (by simpa using hi)) (λi c hi=>?_) λi c hi=>?_
  .have:=h3 i (bF K c) (by rw[g1g,hi];rfl);rw[<-this];cases c<;>rfl
  .exact ih i (bF K c) (by rw[g1g,hi];rfl) (hk c (g1b hi)) rfl
theorem TV.b9E{v:Value}{d:DV}(hν:∀k,(K.any λp=>p.1==k)=true->ν k=μ (rk K k)):aQ K d=true->TV R ν w v d->TV R μ w v (bF K d):=by
 intro hk h
 induction h with
 |d v x h=>exact .d v x h
 |undef v=>exact .undef v
 |ptr k off=>rw[hν _ (by simpa[aQ]using hk)];exact .ptr _ off
 |ep b o cs h=>exact .ep b o cs h
 |mp k=>rw[hν _ (by simpa[aQ]using hk)];exact .mp _
 |it k=>rw[hν _ (by simpa[aQ]using hk)];exact .it _
 |cI vs ds h1 h2=>exact .cI vs ds h1 h2
 |fn f=>exact .fn f
 |qF b=>exact .qF b
 |zY T=>exact .zY T
 |clo f vs cs h1 h2 ih=>simp only[aQ,tU]at hk;simp only[bF,sG];refine .clo f vs _ (by simpa using h1) λi c hi=>?_;rw[g1g]at hi;obtain⟨c0,yI,rfl⟩:=g0V.1 hi;exact ih i c0 yI (hk c0 (g1b yI))
 |ag vs cs h1 h2 h3 h4 ih=>
  simp only[aQ,tU]at hk;simp only[bF,sG];refine .ag vs _ (by simpa using h1) (λi hi=>h2 i (by simpa using hi)) (λi c hi=>?_) λi c hi=>?_
  .rw[g1g]at hi;obtain⟨c0,yI,rfl⟩:=g0V.1 hi;have:=h3 i c0 yI;rw[<-this];cases c0<;>rfl
  .rw[g1g]at hi;obtain⟨c0,yI,rfl⟩:=g0V.1 hi;exact ih i c0 yI (hk c0 (g1b yI))
theorem b9F(d:DV):(bF K d).cell=d.cell:=by cases d<;>rfl
theorem gL.ren{b:Nat}{o:bD}(hν:∀k,(K.any λp=>p.1==k)=true->ν k=μ (rk K k))(hk:aW K o=true)(h:gL R μ w b (dD K o)):gL R ν w b o:=by
 cases o with
 |cells cs=>obtain⟨vs,T,h1,h2,h3,h4⟩:=h;rw[sG]at h2 h3 h4;simp only[aW,tU]at hk;refine⟨vs,T,h1,by simpa using h2,λi d hi=>?_,λT' hm=>h4 T' (List.mem_map.2 ⟨_,hm,rfl⟩)⟩;obtain⟨q1,q2⟩:=h3 i (bF K d) (by rw[g1g,hi];rfl);exact⟨by rw[b9F]at q1;exact q1,q2.ren hν (hk d (g1b hi))⟩
 |map es=>exact h
 |iter s p=>exact h
 |bld T u es=>exact h
theorem gL.b9E{b:Nat}{o:bD}(hν:∀k,(K.any λp=>p.1==k)=true->ν k=μ (rk K k))(hk:aW K o=true)(h:gL R ν w b o):gL R μ w b (dD K o):=by
 cases o with
 |cells cs=>
  obtain⟨vs,T,h1,h2,h3,h4⟩:=h;simp only[aW,tU]at hk;refine⟨vs,T,h1,by simp[sG,h2],λi d hi=>?_,λT' hm=>?_⟩
  .rw[sG,g1g]at hi;obtain⟨d0,hd0,rfl⟩:=g0V.1 hi;exact⟨by rw[b9F];exact(h3 i d0 hd0).1,(h3 i d0 hd0).2.b9E hν (hk d0 (g1b hd0))⟩
  .rw[sG]at hm;obtain⟨d0,hd0,he⟩:=List.mem_map.1 hm;cases d0<;>simp only[bF]at he<;>cases he;exact h4 _ hd0
 |map es=>exact h
 |iter s p=>exact h
 |bld T u es=>exact h
end
end Go.VM
end
