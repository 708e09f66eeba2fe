/- Lemmas. No condition. -/
import Derived.Test.YtmfbjecjccipfaaGreatDoorOwa
import Derived.Deep.LoopGhost
import Derived.Orders
import Derived.Scope
set_option linter.unusedVariables false
set_option linter.unusedSimpArgs false
set_option linter.unusedSectionVars false
set_option maxRecDepth 100000
set_option maxHeartbeats 64000000
section
namespace Go.VM
open Go Go.RowKit
section
variable {P:Program} {G:GT} {st:St} {out:Out}
variable {base:dU} {R R':Nat->Nat->Prop} {μ:Nat->Nat} {a:Act} {w w':World}
variable{x y:Operand}{ts:Array TypeId}{o:Oper}
theorem e1B(ho:o.op=.call {callee:=.builtin .max,args:=#[x,y],argTypes:=ts})(h:d3i G x y st=some out):wS P G o st out:=by
 unfold d3i at h;split at h
 .rename_i k a k' b hx hy;simp only[g3w]at h;subst h;refine bT λbase R μ a w hr=>⟨_,?_,.d _ _ (.int _ _),trivial⟩;simp[execOp,ho,resolve,invoke,builtin,Builtin.max_,Builtin.max2,hr.zE hx,hr.zE hy]
 .cases h
theorem e1C(ho:o.op=.call {callee:=.builtin .min,args:=#[x,y],argTypes:=ts})(h:d3j G x y st=some out):wS P G o st out:=by
 unfold d3j at h;split at h
 .rename_i k a k' b hx hy;simp only[g3w]at h;subst h;refine bT λbase R μ a w hr=>⟨_,?_,.d _ _ (.int _ _),trivial⟩;simp[execOp,ho,resolve,invoke,builtin,Builtin.min_,Builtin.min2,hr.zE hx,hr.zE hy]
 .cases h
theorem c5Q{b:Builtin}{args:Array Operand}(ho:o.op=.call {callee:=.builtin b,args:=args,argTypes:=ts})(h:uZ P G b args.toList ts.toList st=some out):wS P G o st out:=by
 obtain⟨args⟩:=args;obtain⟨ts⟩:=ts;simp only at h;unfold uZ at h;split at h
 .exact e1w ho h
 .exact c9J ho h
 .exact e1B ho h
 .exact e1C ho h
 .cases h
theorem c3c{fn:Fn}{first captured:Array Operand}(ho:o.op=.makeFunc fn first captured)(h:a8H G fn first captured st=some out):wS P G o st out:=by
 unfold a8H at h;split at h
 .rename_i f;split at h
  .rename_i hf;simp only[g3w]at h;subst h;have hf':first=#[]:=by simpa using hf
   refine bT λbase R μ a w hr=>⟨.func (.func f) #[] (captured.map a.eval),by simp[execOp,ho,Instr.makeFunc,hf'],?_,trivial⟩;split
   .rename_i hc;have hc':captured=#[]:=by simpa using hc
    subst hc';rw[show Array.map a.eval #[]=#[] by simp];exact .fn f
   .refine .clo f _ _ (by simp) λi c hi=>?_;rw[g3A]at hi;obtain⟨x,hx,rfl⟩:=g3p.1 hi;have:(captured.map a.eval).getD i Go.undef=a.eval x:=by
     have hx':captured[i]? =some x:=by simpa using hx
     simp[g3s,hx']
    rw[this];exact hr.eval x
  .cases h
 .cases h
theorem e7F(h:pH P G o st=some out):wS P G o st out:=by
 unfold pH at h;split at h
 .exact c5B (.inl ‹_›) h
 .exact c5B (.inr ‹_›) h
 .exact d6c ‹_› h
 .exact c1k ‹_› h
 .exact e1z ‹_› h
 .exact c1i ‹_› h
 .exact b6T ‹_› h
 .exact c5C ‹_› h
 .exact a8J ‹_› h
 .exact c2Y ‹_› h
 .exact d6h ‹_› h
 .exact e7v ‹_› h
 .exact d6j ‹_› h
 .exact c3c ‹_› h
 .exact c5D ‹_› h
 .exact d3l ‹_› h
 .exact d3m ‹_› h
 .exact c0a ‹_› h
 .exact c0b ‹_› h
 .exact d3p ‹_› h
 .exact d3t ‹_› h
 .exact d6p ‹_› h
 .exact c5Q ‹_› h
 .cases h
end
section
variable (P:Program) (G:GT)
def a7n:Option TypeId->OA
 |some e=>.fresh e
 |none=>.no
def Enters(f:FuncId):Prop:=∃fn,P.funcs[f]? =some fn/\fn.body.isNone=false/\(fn.name== "runtime.NumGoroutine")=false
def dW:Op->Bool
 |.move _|.assign _|.pick _ _ _|.build _ _|.buildSlice _ _ _|.load _ _|.nilCheck _|.binOp _ _ _ _ _|.unOp _ _ _|.convert _ _ _|.extract _ _|.field _ _ _|.index _ _ _|.indexAddr _ _ _|.fieldAddr _ _ _|.slice _ _ _ _ _=>true
 |.call {callee:=.value _, .. }=>true
 |.call {callee:=.builtin .len, .. }=>true
 |.call {callee:=.builtin .max, .. }=>true
 |.call {callee:=.builtin .min, .. }=>true
 |_=>false
def a3G:List Oper->List Tmp
 |[]=>[]
 |o::r=>match o.op with
  |.call {callee:=.builtin .append,args, .. }=>match args.toList with
   |.tmp i::_=>i::a3G r
   |_=>a3G r
  |_=>a3G r
def b6q:List Oper->List Tmp
 |[]=>[]
 |o::r=>match o.op,o.dst with
  |.call {callee:=.builtin .append, .. },some i=>i::b6q r
  |_,_=>b6q r
def wK(all:Array Oper)(o:Oper):Bool:=
 match o.guard,o.op,o.dst with
 |none,.move (.tmp j),some i=>j !=i&&(a3G all.toList).contains i
 |none,.assign (.tmp j),some i=>j !=i&&(b6q all.toList).contains j
 |none,.load _ (.tmp _),some i=>(a3G all.toList).contains i
 |none,.call {callee:=.value _, .. },some i=>(a3G all.toList).contains i
 |none,.buildSlice _ _ _,some i=>(a3G all.toList).contains i
 |_,_,_=>false
def a9v(all:Array Oper)(o:Oper)(act:OA):OA:=if wK all o then act else .no
def b1I(q:Bool)(all:Array Oper)(o:Oper)(_:DV)(act:OA):OA:=if q&&dW o.op then a9v all o act else act
def pC(f:FuncId)(g3o:List DV)(ls:List (Option Loc))(st:St)(dst:Option Tmp)(s':St):Prop:=
 ∀(base:dU)(R:Nat->Nat->Prop)(μ:Nat->Nat)(a:Act)(w:World)(args:Array Value),Rel P G base R μ st a w->args.size=g3o.length->(∀(i:Nat)(d:DV),g3o[i]? =some d->TV R μ w (args.getD i undef) d)->
  (∀(i:Nat)(l:Loc),ls[i]? =some (some l)->∀u,cY a w μ l=some u->u=args.getD i undef)->
  Calls P f args w λe w'=>∃v R' μ',e=.returned v/\Rel P G base R' μ' s' (a.put dst v) w'/\Step base R w R' w'
def rowsOf:List Oper->Nat->List Nat->List Nat
 |[],_,rows=>rows
 |o::r,n,rows=>Nat.rec (rowsOf r (n+1) (0::rows)) (λm _=>rowsOf r (n+1) (Nat.succ m::rows)) (o.after.toList.foldl (λacc e=>if Region.binds .any e=true/\e.on<n then acc |||((1 <<<e.on) |||rows.getD (n-1-e.on) 0) else acc) 0)
def kG(ops:Array Oper)(_ j i:Nat):Bool:=decide (j<ops.size)&&((rowsOf ops.toList 0 []).getD (ops.size-1-j) 0).testBit i
def pQ(all:Array Oper)(o:Oper):Bool:=(List.range all.size).all λk=>match all[k]? with
 |some o'=>o'.dst !=o.dst||(List.range all.size).all λj=>j==k||kG all all.size j k||kG all all.size k j
 |none=>true
def d6w(ks:List Nat):Loc->Bool
 |.c k _=> !ks.contains k
 |.t _=>true
def oX(ks:List Nat)(own:List (TypeId×List Loc)):Bool:=own.all λc=>c.2.all (d6w ks)
def qN:DV->Bool
 |.ptr _ _=>false
 |.mp _=>false
 |.it _=>false
 |.clo _ _=>false
 |.ag _=>false
 |_=>true
def RO(f:FuncId)(g3o:List DV)(ks:List Nat)(H:List (Nat×bG))(d:DV):Prop:=
 ∀st:St,(∀k∈ks,getKey k st.H=getKey k H)->oX ks st.own=true->∀dst ls,pC P G f g3o ls st dst (finish st dst d .no)
def a3H(ro:Bool)(f:FuncId)(g3o:List DV)(ls:List (Option Loc))(dst:Option Tmp)(st:St)(K:St->Prop):Prop:=
 if ro=true then ∃d ks,(Enters P f/\RO P G f g3o ks st.H d/\oX ks st.own=true/\(ks.all λk=>(getKey k st.H).isSome)=true/\qN d=true)/\K (finish st dst d .no)
 else ∃s',(Enters P f/\pC P G f g3o ls st dst s')/\K s'
def gS(o:Oper):Bool:=match o.op,o.dst with
 |.alloc _,some _=>true
 |_,_=>false
def gY(ops:Array Oper):List Nat:=ops.toList.filterMap λo=>if gS o then o.dst else none
def uK(q:Bool)(all:Array Oper)(o:Oper):Bool:=q&&(!pQ all o|| !(gY all).isEmpty)
def qO(q:Bool)(all:Array Oper)(o:Oper)(K:St->Prop)(st:St):Prop:=
 match gC o all st.tmps with
 |some true=>
  match kY G o st with
  |some (f,ds)=>(∃r own,(Enters P f/\CS P G f ds r own)/\(q=true->qN r=true)/\K (finish st o.dst r (if q&& !wK all o then .no else a7n own)))\/
   (uK q all o=false/\∃s',(Enters P f/\pC P G f (ds.map .d) (oN o) st o.dst s')/\K s')
  |none=>
   match eB G o st with
   |some (f,g3o)=>a3H P G (uK q all o) f g3o (oN o) o.dst st K
   |none=>
    match pH P G o st with
    |some out=>K (finish out.st o.dst out.v (b1I q all o out.v out.act))
    |none=>False
 |some false=>K (finish st o.dst (.cX []) .no)
 |none=>False
def vU(q:Bool)(all:Array Oper):List Oper->St->(St->Prop)->Prop
 |[],st,K=>K st
 |o::rest,st,K=>qO P G q all o (λs=>vU q all rest s K) st
def a5B(o:Oper):Bool:=match o.op with
 |.call {callee:=.value _, .. }=>true
 |_=>false
def isApp(o:Oper):Bool:=match o.op with
 |.call {callee:=.builtin .append, .. }=>true
 |_=>false
def b5M(o:Oper):Bool:=match o.op,o.dst with
 |.store _ _ _,none=>true
 |_,_=>false
def b0z:Op->Bool
 |.move _|.assign _|.pick _ _ _|.nilCheck _|.binOp _ _ _ _ _|.unOp _ _ _|.convert _ _ _|.extract _ _|.field _ _ _|.index _ _ _|.indexAddr _ _ _|.fieldAddr _ _ _|.slice _ _ _ _ _=>true
 |_=>false
def rU(o:Oper):Bool:=isApp o||gS o||b5M o
def d3x(all:Array Oper)(o:Oper):Bool:=(dW o.op||isApp o||gS o||(match o.op with
 |.store _ _ _=>true
 |_=>false))
def tB(all:Array Oper)(x y:Oper):Bool:=(dW x.op&&dW y.op&& !(wK all x&&wK all y))||(dW x.op&&isApp y&& !wK all x)||(isApp x&&dW y.op&& !wK all y&& !a5B y)||(dW x.op&&gS y)||(gS x&&dW y.op&& !a5B y)||((isApp x||gS x)&&(isApp y||gS y)&&(gS x||gS y))||(b0z x.op&& !wK all x&&b5M y)||(b5M x&&b0z y.op&& !wK all y)
def vV(k:Nat):bG->Bool
 |.cells cs=>cs.all λc=> !mentions k c
 |_=>true
def dI(k:Nat)(st:St):Bool:=(st.tmps.all λv=> !mentions k v)&&(st.H.all λp=>p.1 !=k&&vV k p.2)&&(st.own.all λc=>c.2.all λl=> !l.a0Y k)
def b3C(ops:Array Oper)(st:St):Bool:=(gY ops).all λk=>dI k st
def lexFrom(ops:Array Oper):Nat->Nat->Array Bool->Bool
 |0,_,listed=>(Region.ready .any ops listed).isEmpty
 |fuel+1,k,listed=>(Region.ready .any ops listed).contains k&&
  (match ops[k]? with
  |none=>false
  |some oi=>
   (List.range ops.size).all λj=>j==k||listed.getD j true||kG ops ops.size j k||(match ops[j]? with
    |some oj=>oi.apart ops oj&&tB ops oi oj
    |none=>true))&&
  lexFrom ops fuel (k+1) (listed.setIfInBounds k true)
def d6x(ops:Array Oper):Bool:=((gY ops).isEmpty||(ops.toList.all (d3x ops)&&decide ((gY ops).Nodup)))&&lexFrom ops ops.size 0 (Array.replicate ops.size false)
def VW:Code->St->(Exit->St->Prop)->Prop
 |.skip,st,Q=>Q .normal st
 |.region _ ops draw,st,Q=>(draw=true->P.follows .mixedOrders=true/\d6x ops=true/\b3C ops st=true)/\vU P G draw ops ops.toList st λs=>Q .normal s
 |.seq x y,st,Q=>VW x st λe s=>match e with
  |.normal=>VW y s Q
  |e=>Q e s
 |.cond c x y,st,Q=>
  match st.eval G c with
  |.d (.bool t)=>if t then VW x st Q else VW y st Q
  |.rS=>VW x st Q/\VW y st Q
  |_=>False
 |.block id c,st,Q=>VW c st λe s=>match e with
  |.exit id'=>if id'=id then Q .normal s else Q (.exit id') s
  |e=>Q e s
 |.loop c,st,Q=>SW P G (.loop c) st Q
 |.exit id,st,Q=>Q (.exit id) st
 |.ret,st,Q=>Q .ret st
 |.label _,st,Q=>Q .normal st
 |.scope c,st,Q=>VW c st λe s=>match e with
  |.goto _=>False
  |e=>Q e s
 |_,_,_=>False
end
section
variable {P:Program} {G:GT} {st:St} {out:Out}
variable {base:dU} {R R':Nat->Nat->Prop} {μ:Nat->Nat} {a:Act} {w w':World}
theorem SW.mono{c:Code}{Q Q':Exit->St->Prop}(hq:∀e s,Q e s->Q' e s)(h:SW P G c st Q):SW P G c st Q':=λbase R μ a w hr=>wp_mono (h base R μ a w hr) λ_ _ _ ⟨st',R',μ',q,r,s⟩=>⟨st',R',μ',hq _ _ q,r,s⟩
variable{all ops:Array Oper}{o oi y:Oper}
theorem a4U(hr:Rel P G base R μ st a w){b:Bool}(h:gC o all st.tmps=some b):Region.wanted o (yielded all a.tmps)=b:=by
 unfold gC at h;unfold Region.wanted;split at h
 .rename_i hg;rw[hg];simpa using h
 .rename_i j want hg;rw[hg];simp only;unfold wX at h;unfold yielded;cases hd:(all[j]?).bind (·.dst)with
  |none=>rw[hd]at h;simp at h;subst h;rfl
  |some t=>
   rw[hd]at h;simp only[Option.bind_some]at h|-;by_cases ht:t<a.tmps.size
   .have h1:a.tmps[t]? =some a.tmps[t]:=g3I ht;have ht':t<st.tmps.length:=by rw[<-hr.size];exact ht
    have h2:st.tmps[t]? =some st.tmps[t]:=g3u ht';have hv:=hr.tmps t _ _ h1 h2;rw[h2]at h;simp only[Option.getD_some]at h;rw[h1];generalize a.tmps[t]=v at *;generalize st.tmps[t]=d at *;cases hv with
    |undef=>cases h
    |rS=>cases h
    |d v x hx=>
     cases hx with
     |bool b'=>simp at h;subst h;cases b'<;>cases want<;>rfl
     |_=>simp at h;subst h;rfl
    |_=>simp at h;subst h;rfl
   .have h1:a.tmps[t]? =none:=Array.getElem?_eq_none (g3Z ht);have h2:st.tmps[t]? =none:=g3X (by rw[<-hr.size];exact g3Z ht);rw[h2]at h;simp at h;subst h;rw[h1]
    rfl
theorem c1q(hr:Rel P G base R μ st a w):∀{l:List Operand}{ds:List D},a0p (l.map (st.eval G))=some ds->l.length=ds.length/\∀(i:Nat)(d:D),ds[i]? =some d->V R w ((l.map a.eval).getD i undef) d
 |[],ds,h=>by simp[a0p]at h;subst h;simp
 |x::l,ds,h=>by
  simp only[List.map_cons]at h;cases hx:st.eval G x with
  |d y=>
   rw[hx]at h;simp only[a0p]at h;split at h<;>simp at h;rename_i ds' hds;subst h;obtain⟨h1,h2⟩:=c1q hr hds;refine⟨by simp[h1],λi d hi=>?_⟩;cases i with
   |zero=>simp at hi;subst hi;exact hr.pX hx
   |succ i=>simp at hi;simpa using h2 i d hi
  |_=>rw[hx]at h;simp[a0p]at h
variable{Q:Exit->Act->World->Prop}{f:FuncId}{d e r:DV}{ds:List D}
theorem d1Z{own:Option TypeId}(hc:kY G o st=some (f,ds))(sS:Enters P f/\CS P G f ds r own)(hr:Rel P G base R μ st a w){K:Act->World->Prop}(h:∀v R' w',Rel P G base R' μ (finish st o.dst r (a7n own)) (a.put o.dst v) w'->Step base R w R' w'->K (a.put o.dst v) w'):o.wp P a w K Q:=by
 unfold kY at hc;split at hc
 .rename_i x args ts qD;split at hc
  .rename_i f' ds' hx hds;simp at hc;obtain⟨rfl,rfl⟩:=hc;obtain⟨⟨fn,hf1,hf2,hf3⟩,sS⟩:=sS;obtain⟨hl,hv⟩:=c1q hr hds;have a7l:(execOp a.eval o).run P w=.ok (.enter f' (args.map a.eval)) w:=by
    have c3d:¬fn.body=none:=λhe=>by simp[he]at hf2
    have c3e:¬fn.name= "runtime.NumGoroutine" :=by simpa using hf3
    simp[execOp,qD,resolve,hr.b6L hx,Deferred.ofValue,invoke,callFunc,hf1,c3d,c3e]
   unfold Oper.wp;rw[a7l]
   show Calls P f' (args.map a.eval) w _
   refine(sS w R (args.map a.eval) (hr.wY.up hr.base) hr.sB (by simpa using hl) (λi d hi=>by have:=hv i d hi;simpa[g3s,List.getD]using this)).mono λe w' ⟨v,R',he,htv,hs,jG,ho⟩=>?_
   subst he;have hsb:Step base R w R' w':=⟨hs.below.mono hr.base,hs.mono,λb o q1 q2=>hr.base b (hs.new b o q1 q2),hs.cells⟩;have rT:=hr.step hsb hs.below.below.block hs.new jG;refine h v R' w' (rT.put (htv μ) ?_) hsb;cases own with
   |none=>trivial
   |some e=>
    have oO:=ho e rfl;refine⟨?_,λk o' hk hsp=>?_,?_⟩
    .rcases oO with q|⟨g,n,cap,cur,q1,q2,q3⟩
     .exact .inl q
     .exact .inr ⟨g,n,cap,cur,q1,hr.base _ q2,q3⟩
    .obtain⟨_,_,h3⟩:=hr.mL k o' hk;have h1:w.heap.size<=μ k:=oO.a3C hsp;have h2:=h3.lt;omega
    .obtain⟨vs,tA⟩:=hr.own;refine⟨vs,tA.step hr hs.below.below.block (λb o hb q=>by
      by_cases hR:R b o
      .exact hR
      .have:=hs.new b o q hR;omega),λv' hv'=>⟨λg hg hg'=>?_,λg hg hg'=>?_⟩⟩
     .have h1:w.heap.size<=g:=oO.a3C hg;have h2:=tA.lt hv' hg';omega
     .have h1:w.heap.size<=g:=oO.a3C hg';have h2:=tA.lt hv' hg;omega
  .cases hc
 .cases hc
theorem CS.forget{own:Option TypeId}(h:CS P G f ds r own):CS P G f ds r none:=λw R args hg hR hl hv=>(h w R args hg hR hl hv).mono λe w' ⟨v,R',h1,h2,h3,h4,_⟩=>⟨v,R',h1,h2,h3,h4,λ_ he=>by cases he⟩
theorem b6V{g3o:List DV}{s':St}(hc:eB G o st=some (f,g3o))(sS:Enters P f/\pC P G f g3o (oN o) st o.dst s')(hr:Rel P G base R μ st a w){K:Act->World->Prop}(h:∀v R' μ' w',Rel P G base R' μ' s' (a.put o.dst v) w'->Step base R w R' w'->K (a.put o.dst v) w'):o.wp P a w K Q:=by
 obtain⟨⟨fn,hf1,hf2,hf3⟩,sS⟩:=sS;have c3d:¬fn.body=none:=λhe=>by simp[he]at hf2
 have c3e:¬fn.name= "runtime.NumGoroutine" :=by simpa using hf3
 have main:∀args:Array Value,(execOp a.eval o).run P w=.ok (.enter f args) w->args.size=g3o.length->(∀(i:Nat)(d:DV),g3o[i]? =some d->TV R μ w (args.getD i undef) d)->
   (∀(i:Nat)(l:Loc),(oN o)[i]? =some (some l)->∀u,cY a w μ l=some u->u=args.getD i undef)->o.wp P a w K Q:=λargs a7l hl hv a9u=>by
  unfold Oper.wp;rw[a7l]
  show Calls P f args w _
  refine(sS base R μ a w args hr hl hv a9u).mono λe w' ⟨v,R',μ',he,rT,hs⟩=>?_;subst he;exact h v R' μ' w' rT hs
 have each:∀(l:List Operand)(i:Nat)(d:DV),(l.map (st.eval G))[i]? =some d->TV R μ w ((l.map a.eval).getD i undef) d:=λl i d hi=>by
  rw[g3A]at hi;obtain⟨x,hx,rfl⟩:=g3p.1 hi;have:(l.map a.eval).getD i undef=a.eval x:=by simp[List.getD,hx]
  rw[this];exact hr.eval x
 have eU:∀(args:Array Operand)(vs:Array Value),oN o=args.toList.map a7b->∀(i:Nat)(l:Loc),(oN o)[i]? =some (some l)->∀u,cY a w μ l=some u->u=(args.map a.eval++vs).getD i undef:=λargs vs qZ i l hi u hu=>by
  rw[qZ,g3A]at hi;obtain⟨x,hx,hxl⟩:=g3p.1 hi;cases x with
  |tmp t=>
   simp only[a7b,g3w]at hxl;subst hxl;simp only[cY]at hu;have aG:i<args.size:=by have:=(g3r.1 hx).1;simpa using this
   have he:args[i]? =some (.tmp t):=by simpa using hx
   rw[g3s,g3Y (by simpa using aG),Array.getElem?_map,he];simp[Act.eval,hu]
  |_=>cases hxl
 unfold eB at hc;split at hc
 .rename_i x args ts qD;have qZ:oN o=args.toList.map a7b:=by simp[oN,qD]
  split at hc
  .rename_i f' hx;simp at hc;obtain⟨rfl,rfl⟩:=hc;refine main (args.map a.eval) ?_ (by simp) (λi d hi=>?_) (by simpa using eU args #[] qZ)
   .simp[execOp,qD,resolve,hr.b6L hx,Deferred.ofValue,invoke,callFunc,hf1,c3d,c3e]
   .have:=each args.toList i d hi;simpa[g3s,List.getD]using this
  .rename_i f' cs hx;simp at hc;obtain⟨rfl,rfl⟩:=hc;obtain⟨vs,he,tA,hvc⟩:=(hr.qR hx).b1D;refine main (args.map a.eval++vs) ?_ (by simp[tA]) (λi d hi=>?_) (eU args vs qZ)
   .simp[execOp,qD,resolve,he,Deferred.ofValue,invoke,callFunc,hf1,c3d,c3e]
   .by_cases aG:i<args.size
    .rw[g3B (by simpa using aG)]at hi;have:=each args.toList i d hi;rw[g3s,g3Y (by simpa using aG)];simpa[g3s,List.getD]using this
    .rw[g3y (by simp;omega)]at hi;simp only[List.length_map,Array.length_toList]at hi;have:=hvc _ d hi;rw[g3s,g4n (by simp;omega)];simpa[g3s]using this
  .cases hc
 .cases hc
variable{q:Bool}
theorem c9L{P:Program}{G:GT}{st:St}{out:Out}(_:pH P G o st=some out):b1I q all o out.v out.act=.no\/b1I q all o out.v out.act=out.act:=by
 unfold b1I a9v;split
 .split
  .exact .inr rfl
  .exact .inl rfl
 .exact .inr rfl
theorem c5R:∀{l:List DV}{ds:List D},a0p l=some ds->l=ds.map .d
 |[],ds,h=>by simp[a0p]at h;subst h;rfl
 |.d x::l,ds,h=>by
  simp only[a0p]at h;split at h
  .rename_i ds' hd;simp at h;subst h;rw[c5R hd];rfl
  .cases h
 |.undef::_,_,h=>by simp[a0p]at h
 |.ptr _ _::_,_,h=>by simp[a0p]at h
 |.ep _::_,_,h=>by simp[a0p]at h
 |.mp _::_,_,h=>by simp[a0p]at h
 |.it _::_,_,h=>by simp[a0p]at h
 |.cX _::_,_,h=>by simp[a0p]at h
 |.fn _::_,_,h=>by simp[a0p]at h
 |.rS::_,_,h=>by simp[a0p]at h
 |.a0W _::_,_,h=>by simp[a0p]at h
 |.clo _ _::_,_,h=>by simp[a0p]at h
 |.ag _::_,_,h=>by simp[a0p]at h
theorem c9M(h:kY G o st=some (f,ds)):eB G o st=some (f,ds.map .d):=by
 unfold kY at h;unfold eB;split at h
 .rename_i x args ts qD;split at h
  .rename_i f' ds' hx hds;simp at h;obtain⟨rfl,rfl⟩:=h;simp only[qD,hx];rw[c5R hds]
  .cases h
 .cases h
variable{K:St->Prop}
theorem uL{KK:Act->World->Prop}(h:qO P G q all o K st)(hr:Rel P G base R μ st a w)(hk:∀s v w' R' μ',K s->Rel P G base R' μ' s (a.put o.dst v) w'->Step base R w R' w'->KK (a.put o.dst v) w'):
  if Region.wanted o (yielded all a.tmps) then o.wp P a w KK Q\/(o.asks P a w/\LetsOut Q) else KK (a.put o.dst Go.undef) w:=by
 unfold qO at h;split at h
 .rename_i hw;rw[a4U hr hw,if_pos rfl];refine .inl ?_;split at h
  .rename_i f ds hc;rcases h with⟨r,own,sS,_,h⟩|⟨_,s',sS,h⟩
   .generalize (q&& !wK all o)=qn at h;cases qn with
    |true=>exact d1Z hc ⟨sS.1,sS.2.forget⟩ hr λv R1 w1 rT hs=>hk _ v w1 R1 μ h rT hs
    |false=>exact d1Z hc sS hr λv R1 w1 rT hs=>hk _ v w1 R1 μ h rT hs
   .exact b6V (c9M hc) sS hr λv R1 μ1 w1 rT hs=>hk _ v w1 R1 μ1 h rT hs
  .split at h
   .rename_i f g3o hch;unfold a3H at h;split at h
    .obtain⟨d,ks,⟨h1,h2,h3,_⟩,h⟩:=h;exact b6V hch ⟨h1,h2 st (λ_ _=>rfl) h3 _ _⟩ hr λv R1 μ1 w1 rT hs=>hk _ v w1 R1 μ1 h rT hs
    .obtain⟨s',sS,h⟩:=h;exact b6V hch sS hr λv R1 μ1 w1 rT hs=>hk _ v w1 R1 μ1 h rT hs
   split at h
   .rename_i out hv;obtain⟨v,w1,R1,μ1,dG,rT,htv,a1r,hs⟩:=e7F hv base R μ a w hr;have f2r:a7c P base R1 μ1 out.st a w1 v (b1I q all o out.v out.act):=by
     rcases c9L (q:=q) (all:=all) hv with he|he
     .rw[he];trivial
     .rw[he];exact a1r
    have hgo:=hk _ v w1 R1 μ1 h (rT.put (dst:=o.dst) htv f2r) hs;unfold Oper.wp;rcases dG with dG|⟨dG,rfl⟩
    .rw[dG];exact hgo
    .rw[dG];exact hgo
   .cases h
 .rename_i hw;rw[a4U hr hw];simp only[g3K,if_false];exact hk _ _ w R μ h (hr.put (dst:=o.dst) (v:=Go.undef) (.cX #[] [] rfl (by simp)) trivial) (.refl _ _ _)
 .cases h
theorem c3f{q:Bool}(all:Array Oper)(Q:Exit->Act->World->Prop):∀(l:List Oper)(st:St)(K:St->Prop),vU P G q all l st K->∀(base:dU)(R:Nat->Nat->Prop)(μ:Nat->Nat)(a:Act)(w:World),Rel P G base R μ st a w->
  (∀s a' w' R' μ',K s->Rel P G base R' μ' s a' w'->Step base R w R' w'->Q .normal a' w')->wpList P all Q l a w
 |[],st,K,h,base,R,μ,a,w,hr,hk=>hk st a w R μ h hr (.refl _ _ _)
 |o::rest,st,K,h,base,R,μ,a,w,hr,hk=>by unfold wpList;exact uL h hr λs v w' R' μ' h' jG tL=>c3f all Q rest s K h' base R' μ' _ w' jG λs a' w2 R2 μ2 q1 q2 q3=>hk s a' w2 R2 μ2 q1 q2 (tL.trans q3)
theorem jQ{K':St->Prop}(hk:∀s,K s->K' s)(h:qO P G q all o K st):qO P G q all o K' st:=by
 unfold qO at *;split
 .rename_i hw;rw[hw]at h;simp only at h|-;split
  .rename_i f ds hc;rw[hc]at h;rcases h with⟨r,own,h1,h3,h2⟩|⟨h0,s',h1,h2⟩
   .exact .inl ⟨r,own,h1,h3,hk _ h2⟩
   .exact .inr ⟨h0,s',h1,hk _ h2⟩
  .rename_i hc;rw[hc]at h;simp only at h;split
   .rename_i f g3o hch;rw[hch]at h;simp only[a3H]at h|-;split
    .rename_i hro;rw[if_pos hro]at h;obtain⟨d,ks,h1,h2⟩:=h;exact⟨d,ks,h1,hk _ h2⟩
    .rename_i hro;rw[if_neg hro]at h;obtain⟨s',h1,h2⟩:=h;exact⟨s',h1,hk _ h2⟩
   rename_i hch;rw[hch]at h;simp only at h;split
   .rename_i out ho;rw[ho]at h;exact hk _ h
   .rename_i ho;rw[ho]at h;exact h
 .rename_i hw;rw[hw]at h;exact hk _ h
 .rename_i hw;rw[hw]at h;exact h
def QY(P:Program)(G:GT)(all:Array Oper)(o:Oper)(d:DV)(act:OA)(st:St):Prop:=
 (gC o all st.tmps=some true/\((∃f ds own,kY G o st=some (f,ds)/\Enters P f/\CS P G f ds d own/\qN d=true/\act=a7n own)\/(kY G o st=none/\eB G o st=none/\pH P G o st=some ⟨d,act,st⟩)\/
  (kY G o st=none/\∃f g3o ks,eB G o st=some (f,g3o)/\Enters P f/\RO P G f g3o ks st.H d/\oX ks st.own=true/\(ks.all λk=>(getKey k st.H).isSome)=true/\qN d=true/\act=.no)))\/(gC o all st.tmps=some false/\d=.cX []/\act=.no)
variable{s st':St}
theorem c1s(hq:dW o.op=true)(he:∀x∈o.op.operands,st'.eval G x=st.eval G x)(hH:∀x∈o.op.operands,∀k,mentions k (st.eval G x)=true->getKey k st'.H=getKey k st.H):pH P G o st'=(pH P G o st).map λout=>⟨out.v,out.act,st'⟩:=by
 obtain⟨dst,op,ty,pos,after,guard⟩:=o;have parts:∀ps:List (Nat×Operand),(∀x∈ps.map (·.2),st'.eval G x=st.eval G x)->a4k G st' ps=a4k G st ps:=by
  intro ps
  induction ps with
  |nil=>intro _;rfl
  |cons p ps ih=>intro hp;obtain⟨i,x⟩:=p;unfold a4k;rw[hp x (by simp),ih λy hy=>hp y (by simp at hy|-;exact .inr hy)]
 have e7G:∀ps:List (Nat×Operand),(∀x∈ps.map (·.2),st'.eval G x=st.eval G x)->a1p G st' ps=a1p G st ps:=by
  intro ps
  induction ps with
  |nil=>intro _;rfl
  |cons p ps ih=>intro hp;obtain⟨i,x⟩:=p;unfold a1p;rw[hp x (by simp),ih λy hy=>hp y (by simp at hy|-;exact .inr hy)]
 have xW:∀(x:Option Operand)(d n:Nat),(∀y,x=some y->st'.eval G y=st.eval G y)->jT G st' x d n=jT G st x d n:=λx d n hx=>by
  cases x with
  |none=>rfl
  |some y=>simp only[jT,hx y rfl]
 cases op<;>simp only[dW]at hq<;>try cases hq
 all_goals simp only[Op.operands]at he hH
 case move x=>simp[pH,a4P,he]
 case assign x=>simp[pH,a4P,he]
 case pick c a b=>simp only[pH,b6I,he c (by simp),he a (by simp),he b (by simp)];split<;>rfl
 case build t ps=>
  simp only[pH,b0q,parts ps.toList λx hx=>he x (by simpa using hx)];split
  .split
   .simp[g3R,Function.comp_def]
   .simp only[a8I,e7G ps.toList λx hx=>he x (by simpa using hx)];split
    .simp[g3R,Function.comp_def]
    .rfl
  .rfl
 case buildSlice t n ps=>
  simp only[pH,uW,parts ps.toList λx hx=>he x (by simpa using hx)];split
  .split<;>rfl
  .rfl
 case load t x=>
  simp only[pH,b4y,he x (by simp)];split
  .rename_i k off hx;rw[hH x (by simp) k (by rw[hx];simp[mentions])];split
   .simp[g3R,Function.comp_def]
   .rfl
  .simp[g3R,Function.comp_def]
  .rfl
 case nilCheck x=>simp only[pH,yH,he x (by simp)];split<;>rfl
 case binOp op t x y u=>
  simp only[pH,b6J,a2A,c9t,he x (by simp),he y (by simp)];split
  .split<;>rfl
  .split
   .simp[g3R,Function.comp_def]
   .rfl
 case unOp op t x=>
  simp only[pH,vUn,he x (by simp)];split
  .simp[g3R,Function.comp_def]
  .rfl
 case convert src dst x=>
  simp only[pH,b6K,he x (by simp)];split
  .simp[g3R,Function.comp_def]
  .rfl
 case extract x i=>
  simp only[pH,a2B,he x (by simp)];split
  .simp[g3R,Function.comp_def]
  .rfl
 case field t x i=>
  simp only[pH,b0r,he x (by simp)];split
  .simp[g3R,Function.comp_def]
  .rfl
 case index t x i=>
  simp only[pH,b0s,he x (by simp),he i (by simp)];split
  .simp[g4l,g3R,Function.comp_def]
  .simp[g4l,g3R,Function.comp_def]
  .rfl
 case indexAddr t x i=>
  simp only[pH,uX,he x (by simp),he i (by simp)];split
  .rw[g4l];congr 1;funext j;simp only[Function.comp];rw[g4l];congr 1;funext cs;simp only[Function.comp];split<;>rfl
  .split
   .rfl
   .simp[g3R,Function.comp_def]
  .split
   .rfl
   .simp[g3R,Function.comp_def]
  .rfl
 case fieldAddr t x i=>
  simp only[pH,uY,he x (by simp)];split
  .split
   .rfl
   .split<;>rfl
  .rfl
 case slice t x lo hi mx=>
  have qZ:∀y,lo=some y->st'.eval G y=st.eval G y:=λy hy=>he y (by simp[hy]);have hhi:∀y,hi=some y->st'.eval G y=st.eval G y:=λy hy=>he y (by simp[hy]);have hmx:∀y,mx=some y->st'.eval G y=st.eval G y:=λy hy=>he y (by simp[hy]);simp only[pH,b0t,he x (by simp),xW lo _ _ qZ,xW hi _ _ hhi];split
  .simp[g4l,g3R,Function.comp_def]
  .split
   .simp[g4l,g3R,Function.comp_def]
   .rfl
  .split
   .simp[g4l,g3R,Function.comp_def]
   .rfl
  .rw[xW (some _) _ _ λy hy=>hmx y hy];split<;>rfl
  .rw[xW (some _) _ _ λy hy=>hmx y hy];split<;>rfl
  .rfl
 case call c=>
  obtain⟨callee,args,ts⟩:=c;cases callee with
  |value f=>simp[pH]
  |invoke r m=>simp at hq
  |builtin b=>
   have mem:∀{x:Operand}{l:List Operand},args.toList=l->x∈l->st'.eval G x=st.eval G x:=λhl hx=>he _ (by simp only[Op.operands,Call.operands];rw[<-g4o];simp[hl,hx]);cases b<;>simp only[]at hq<;>try cases hq
   .simp only[pH,uZ];split
    .rename_i x t _ heq _;have hx:st'.eval G x=st.eval G x:=mem heq (by simp);have hxm:x∈args:=by rw[<-g4o];simp[heq]
     simp only[d3h,hx];split
     .rfl
     .rfl
     .rfl
     .rfl
    .rename_i h1 _ _;cases h1
    .rename_i h1 _;cases h1
    .rename_i h1 _;cases h1
    .rfl
   .simp only[pH,uZ];split
    .rename_i h1 _ _;cases h1
    .rename_i h1 _ _;cases h1
    .rename_i x y _ heq;have hx:st'.eval G x=st.eval G x:=mem heq (by simp);have hy:st'.eval G y=st.eval G y:=mem heq (by simp);simp only[d3i,hx,hy];split<;>rfl
    .rename_i h1 _;cases h1
    .rfl
   .simp only[pH,uZ];split
    .rename_i h1 _ _;cases h1
    .rename_i h1 _ _;cases h1
    .rename_i h1 _;cases h1
    .rename_i x y _ heq;have hx:st'.eval G x=st.eval G x:=mem heq (by simp);have hy:st'.eval G y=st.eval G y:=mem heq (by simp);simp only[d3j,hx,hy];split<;>rfl
    .rfl
theorem c5S(hq:dW o.op=true)(h:pH P G o st=some out):out.st=st:=by have:=c1s (P:=P) (G:=G) (st:=st) (st':=st) hq (λ_ _=>rfl) (λ_ _ _ _=>rfl);rw[h]at this;simp at this;have h2:=congrArg Out.st this;simpa using h2
theorem a7o(st:St)(dst:Option Tmp)(d:DV)(act:OA):(finish st dst d act).H=st.H:=by cases dst<;>rfl
variable{dst:Option Tmp}
theorem c5T{act:OA}{x:Operand}(h:∀t,dst=some t->x≠ .tmp t):(finish st dst d act).eval G x=st.eval G x:=by
 cases dst with
 |none=>rfl
 |some t=>
  cases x with
  |tmp j=>have gJ:t≠j:=λe=>h t rfl (e▸rfl);simp[finish,St.eval,List.getElem?_set_ne gJ]
  |_=>rfl
theorem b0A{act:OA}(h:∀t,dst=some t->t ∉ o.looksAt all):∀x∈o.op.operands,(finish st dst d act).eval G x=st.eval G x:=λx hx=>c5T λt ht hxt=>h t ht (by subst hxt;exact List.mem_append_left _ (g3V.2 ⟨.tmp t,by simpa using hx,rfl⟩))
theorem bM{act:OA}(h:∀t,dst=some t->t ∉ o.looksAt all):gC o all (finish st dst d act).tmps=gC o all st.tmps:=by
 cases dst with
 |none=>rfl
 |some t=>
  unfold gC;cases hg:o.guard with
  |none=>rfl
  |some gw=>
   obtain⟨g,want⟩:=gw;have hy:wX all (finish st (some t) d act).tmps g=wX all st.tmps g:=by
    unfold wX;cases ht:(all[g]?).bind (·.dst)with
    |none=>rfl
    |some j=>have gJ:t≠j:=λe=>h t rfl (by subst e;simp[Oper.looksAt,hg,ht]);simp[finish,List.getElem?_set_ne gJ]
   simp only[hy]
theorem c3g(h:∀x∈o.op.operands,st'.eval G x=st.eval G x):kY G o st'=kY G o st:=by
 unfold kY;split
 .rename_i x args ts qD;rw[qD]at h;have hx:=h x (by simp[Op.operands,Call.operands]);have ha:args.toList.map (st'.eval G)=args.toList.map (st.eval G):=List.map_congr_left λy hy=>h y (by simp[Op.operands,Call.operands];exact .inr (by simpa using hy));rw[hx,ha]
 .rfl
theorem c0g(h:∀x∈o.op.operands,st'.eval G x=st.eval G x):eB G o st'=eB G o st:=by
 unfold eB;split
 .rename_i x args ts qD;rw[qD]at h;have hx:=h x (by simp[Op.operands,Call.operands]);have ha:args.toList.map (st'.eval G)=args.toList.map (st.eval G):=List.map_congr_left λy hy=>h y (by simp[Op.operands,Call.operands];exact .inr (by simpa using hy));rw[hx,ha]
 .rfl
theorem b0B(ks:List Nat)(t:Tmp)(own:List (TypeId×List Loc)):oX ks (dH (.t t) own)=oX ks own:=by
 unfold oX dH;rw[List.all_map];congr 1;funext c;simp only[Function.comp]
 induction c.2 with
 |nil=>rfl
 |cons l r ih=>
  by_cases hl:l=.t t
  .subst hl;rw[List.filter_cons_of_neg (by simp),ih]
   rfl
  .rw[List.filter_cons_of_pos (by simp[hl]),List.all_cons,List.all_cons,ih]
theorem c5U(ks:List Nat)(s:Loc)(t:Tmp)(own:List (TypeId×List Loc)):oX ks (addAlias s (.t t) own)=oX ks own:=by
 unfold oX addAlias;rw[List.all_map];congr 1;funext c;simp only[Function.comp];split
 .rw[List.all_cons];rfl
 .rfl
theorem b1J(ks:List Nat)(dst:Option Tmp)(d:DV)(act:OA):oX ks (VM.finish st dst d act).own=oX ks st.own:=by
 cases dst with
 |none=>rfl
 |some t=>
  simp only[VM.finish];cases act with
  |no=>exact b0B ks t _
  |al l=>
   simp only[gL];split
   .rfl
   .rw[c5U,b0B]
  |fresh e=>
   simp only[gL];have:=b0B ks t st.own;unfold oX at this|-;rw[List.all_cons,this]
   rfl
theorem d6y{x:FuncId×List DV}(h:eB G o st=some x):a5B o=true:=by
 unfold eB at h;unfold a5B;split at h
 .rename_i qD;rw[qD]
 .cases h
variable{ac:OA}
theorem QY.to(h:QY P G all o d ac st)(hq:dW o.op=true)(hw:gC o all st'.tmps=gC o all st.tmps)(he:∀x∈o.op.operands,st'.eval G x=st.eval G x)(hH:∀x∈o.op.operands,∀k,mentions k (st.eval G x)=true->getKey k st'.H=getKey k st.H)(hk:a5B o=true->∀k o,getKey k st.H=some o->getKey k st'.H=some o)(hn:a5B o=true->∀ks,(ks.all λk=>(getKey k st.H).isSome)=true->oX ks st.own=true->oX ks st'.own=true):QY P G all o d ac st':=by
 unfold QY at h|-;rw[hw,c3g he,c0g he,c1s hq he hH];rcases h with⟨h0,h|⟨h1,h2,h3⟩|⟨h1,f,g3o,ks,h2,h3,h4,h5,h6,h7,h8⟩⟩|h
 .exact .inl ⟨h0,.inl h⟩
 .exact .inl ⟨h0,.inr (.inl ⟨h1,h2,by rw[h3];rfl⟩)⟩
 .have hv:=d6y h2;have hks:∀k∈ks,getKey k st'.H=getKey k st.H:=λk zD=>by obtain⟨ob,hob⟩:=g3S.1 (g3t.1 h6 k zD);rw[hob];exact hk hv k ob hob
  refine .inl ⟨h0,.inr (.inr ⟨h1,f,g3o,ks,h2,h3,λs hs vB=>h4 s (λk zD=>(hs k zD).trans (hks k zD)) vB,hn hv ks h6 h5,g3t.2 λk zD=>?_,h7,h8⟩)⟩;rw[hks k zD];exact g3t.1 h6 k zD
 .exact .inr h
theorem QY.finish{all:Array Oper}{o:Oper}{d x:DV}{ac:OA}{dst:Option Tmp}{act:OA}(hq:dW o.op=true)(h:∀t,dst=some t->t ∉ o.looksAt all):QY P G all o d ac (VM.finish st dst x act)↔QY P G all o d ac st:=by
 have he:=b0A (G:=G) (st:=st) (d:=x) (act:=act) h;refine⟨λhy=>QY.to hy hq (bM h).symm (λy hy=>(he y hy).symm) (λ_ _ _ _=>by rw[a7o]) (λ_ k ob hk=>by rw[a7o]at hk;exact hk) (λ_ ks _ hn=>by rw[b1J]at hn;exact hn),
  λhy=>QY.to hy hq (bM h) he (λ_ _ _ _=>by rw[a7o]) (λ_ k ob hk=>by rw[a7o];exact hk) (λ_ ks _ hn=>by rw[b1J];exact hn)⟩
theorem c9N(hq:dW o.op=true)(hal:pQ all o=false):qO P G true all o K st↔∃d act,QY P G all o d act st/\K (finish st o.dst d (a9v all o act)):=by
 have a1r:∀d act,b1I true all o d act=a9v all o act:=λd act=>by simp[b1I,hq]
 have vB:a9v all o .no=.no:=by unfold a9v;split<;>rfl
 have hqn:∀a,a9v all o a=if true&& !wK all o then .no else a:=λa=>by unfold a9v;cases wK all o<;>rfl
 unfold qO QY;constructor
 .intro h;split at h
  .rename_i hw;rw[hw];split at h
   .rename_i f ds hc;rcases h with⟨r,own,⟨h1,h2⟩,h4,h3⟩|⟨h0,_⟩
    .exact⟨r,a7n own,.inl ⟨rfl,.inl ⟨f,ds,own,hc,h1,h2,h4 rfl,rfl⟩⟩,by rw[hqn];exact h3⟩
    .simp[uK,hal]at h0
   .rename_i hc;split at h
    .rename_i f g3o hch;simp only[a3H,uK,hal,Bool.not_false,Bool.true_or,Bool.and_self,if_true]at h;obtain⟨d,ks,⟨h1,h2,h3,h5,h6⟩,h4⟩:=h;exact⟨d,.no,.inl ⟨rfl,.inr (.inr ⟨hc,f,g3o,ks,hch,h1,h2,h3,h5,h6,rfl⟩)⟩,by rw[vB];exact h4⟩
    .rename_i hch;split at h
     .rename_i out ho;rw[a1r]at h;have hs:=c5S hq ho;obtain⟨v,act,s2⟩:=out;simp only at hs;subst hs;exact⟨v,act,.inl ⟨rfl,.inr (.inl ⟨hc,hch,ho⟩)⟩,h⟩
     .cases h
  .rename_i hw;exact⟨.cX [],.no,.inr ⟨hw,rfl,rfl⟩,by rw[vB];exact h⟩
  .cases h
 .rintro⟨d,act,(⟨hw,⟨f,ds,own,hc,h1,h2,h4,rfl⟩|⟨hc,hch,ho⟩|⟨hc,f,g3o,ks,hch,h1,h2,h3,h5,h6,rfl⟩⟩|⟨hw,rfl,rfl⟩),hk⟩
  .rw[hqn]at hk;rw[hw];simp only;rw[hc];exact .inl ⟨d,own,⟨h1,h2⟩,λ_=>h4,hk⟩
  .rw[hw];simp only;rw[hc];simp only;rw[hch];simp only;rw[ho];simp only;rw[a1r];exact hk
  .rw[vB]at hk;rw[hw];simp only;rw[hc];simp only;rw[hch];simp only[a3H,uK,hal,Bool.not_false,Bool.true_or,Bool.and_self,if_true];exact⟨d,ks,⟨h1,h2,h3,h5,h6⟩,hk⟩
  .rw[vB]at hk;rw[hw];exact hk
def c3h(all:Array Oper)(o:Oper)(a:OA):Prop:=a=.no\/(wK all o=true/\∃e,a=.fresh e)\/∃l i,o.dst=some i/\wK all o=true/\l≠ .t i/\(∀u,u ∉ o.looksAt all->l≠ .t u)/\a=.al l
theorem a3I(v:DV)(a:OA):uV v a=.no\/uV v a=a:=by
 unfold uV;split
 .exact .inr rfl
 .exact .inl rfl
theorem QY.act{all:Array Oper}{o:Oper}{d:DV}{act:OA}(h:QY P G all o d act st):c3h all o (a9v all o act):=by
 unfold a9v;split
 .rename_i hn;rcases h with⟨hw,⟨f,ds,own,hc,h1,h2,_,rfl⟩|⟨hc,hch,ho⟩|⟨hc,f,g3o,ks,hch,h1,h2,h3,_,_,rfl⟩⟩|⟨hw,rfl,rfl⟩
  .cases own with
   |none=>exact .inl rfl
   |some e=>exact .inr (.inl ⟨hn,e,rfl⟩)
  .obtain⟨dst,op,ty,pos,after,guard⟩:=o;have hn':=hn;unfold wK at hn;split at hn
   .rename_i j i hg qD hd;simp only at hg qD hd;subst hg qD hd;simp only[g3q,bne_iff_ne]at hn;have:act=uV (st.eval G (.tmp j)) (.al (.t j)):=by simp only[pH,a4P,g3w,Out.mk.injEq]at ho;exact ho.2.1.symm
    rcases a3I (st.eval G (.tmp j)) (.al (.t j))with h1|h1
    .exact .inl (this.trans h1)
    .exact .inr (.inr ⟨.t j,i,rfl,hn',λe=>hn.1 (by cases e;rfl),λu hu e=>hu (by cases e;simp[Oper.looksAt,Op.operands]),this.trans h1⟩)
   .rename_i j i hg qD hd;simp only at hg qD hd;subst hg qD hd;simp only[g3q,bne_iff_ne]at hn;have:act=uV (st.eval G (.tmp j)) (.al (.t j)):=by simp only[pH,a4P,g3w,Out.mk.injEq]at ho;exact ho.2.1.symm
    rcases a3I (st.eval G (.tmp j)) (.al (.t j))with h1|h1
    .exact .inl (this.trans h1)
    .exact .inr (.inr ⟨.t j,i,rfl,hn',λe=>hn.1 (by cases e;rfl),λu hu e=>hu (by cases e;simp[Oper.looksAt,Op.operands]),this.trans h1⟩)
   .rename_i ty' j i hg qD hd;simp only at hg qD hd;subst hg qD hd;simp only[pH,b4y]at ho;split at ho
    .rename_i k off _;split at ho
     .rename_i cs hk;obtain⟨y,_,he⟩:=g3p.1 ho;simp only[Out.mk.injEq]at he;have:act=uV y (.al (.c k off)):=he.2.1.symm;rcases a3I y (.al (.c k off))with h1|h1
      .exact .inl (this.trans h1)
      .exact .inr (.inr ⟨.c k off,i,rfl,hn',(by simp),(λu _=>by simp),this.trans h1⟩)
     .cases ho
    .obtain⟨y,_,he⟩:=g3p.1 ho;simp only[Out.mk.injEq]at he;exact .inl he.2.1.symm
    .cases ho
   .rename_i cl x i hg qD hd;simp only at hg qD hd;subst hg qD hd;simp[pH]at ho
   .rename_i t n ps i hg qD hd;simp only at hg qD hd;subst hg qD hd;simp only[pH,uW]at ho;split at ho
    .split at ho
     .simp only[g3w,Out.mk.injEq]at ho;exact .inr (.inl ⟨hn',_,ho.2.1.symm⟩)
     .cases ho
    .cases ho
   .cases hn
  .exact .inl rfl
  .exact .inl rfl
 .exact .inl rfl
variable{own:List (TypeId×List Loc)}
theorem tC(x:Loc){y:Loc}:dH x (dH y own)=dH y (dH x own):=by simp only[dH,List.map_map];refine List.map_congr_left λc _=>?_;simp only[Function.comp,List.filter_filter];congr 1;refine List.filter_congr λl _=>?_;rw[Bool.and_comm]
variable{l x:Loc}
theorem a9I(h:l≠x)(c:List Loc):(c.filter λy=>decide (y≠x)).contains l=c.contains l:=by rw[Bool.eq_iff_iff];simp only[List.contains_iff_mem,List.mem_filter,g4e];exact⟨λh=>h.1,λh'=>⟨h',h⟩⟩
theorem b6W{s t:Loc}(h1:s≠x)(h2:t≠x)(own:List (TypeId×List Loc)):addAlias s t (dH x own)=dH x (addAlias s t own):=by
 simp only[addAlias,dH,List.map_map];refine List.map_congr_left λc _=>?_;simp only[Function.comp,a9I h1];split
 .simp[h2]
 .rfl
variable{u:Tmp}
theorem c5V{t:Tmp}(h1:t≠u)(h2:l≠ .t u)(h3:l≠ .t t):gL (.t u) .no (gL (.t t) (.al l) own)=gL (.t t) (.al l) (gL (.t u) .no own):=by have ht:(.t t:Loc)≠ .t u:=λe=>h1 (by cases e;rfl);simp only[gL];rw[if_neg h3,if_neg h3, <- b6W h2 ht,tC]
theorem b0C{e:TypeId}{t:Tmp}(h1:t≠u):gL (.t u) .no (gL (.t t) (.fresh e) own)=gL (.t t) (.fresh e) (gL (.t u) .no own):=by have ht:(.t t:Loc)≠ .t u:=λe=>h1 (by cases e;rfl);simp only[gL];rw[tC (.t t)];simp[dH,ht]
theorem a1c{x:Oper}{ax ay:OA}(h:∀t,x.dst=some t->y.dst≠some t)(hx:∀t,x.dst=some t->t ∉ y.looksAt all)(hy:∀t,y.dst=some t->t ∉ x.looksAt all)(hn:(wK all x&&wK all y)=false)(sx:c3h all x ax)(sy:c3h all y ay):
  finish (finish st x.dst d ax) y.dst e ay=finish (finish st y.dst e ay) x.dst d ax:=by
 cases hxd:x.dst with
 |none=>cases y.dst<;>rfl
 |some t=>
  cases hyd:y.dst with
  |none=>rfl
  |some u=>
   have gJ:t≠u:=λhe=>h t hxd (he▸hyd);simp only[finish];rw[List.set_comm _ _ gJ];congr 1;rcases sx with rfl|⟨q2,e,rfl⟩|⟨l,i,q1,q2,q3,q4,rfl⟩
   .rcases sy with rfl|⟨q2,e,rfl⟩|⟨l,i,q1,q2,q3,q4,rfl⟩
    .exact tC _
    .exact(b0C (Ne.symm gJ)).symm
    .rw[hyd]at q1;cases q1;exact(c5V (Ne.symm gJ) (q4 t (hx t hxd)) q3).symm
   .rcases sy with rfl|⟨p2,e',rfl⟩|⟨l',i',p1,p2,p3,p4,rfl⟩
    .exact b0C gJ
    .rw[q2,p2]at hn;cases hn
    .rw[q2,p2]at hn;cases hn
   .rw[hxd]at q1;cases q1;rcases sy with rfl|⟨p2,e',rfl⟩|⟨l',i',p1,p2,p3,p4,rfl⟩
    .exact c5V gJ (q4 u (hy u hyd)) q3
    .rw[q2,p2]at hn;cases hn
    .rw[q2,p2]at hn;cases hn
def c0h(P:Program)(G:GT)(ops:Array Oper)(Q:St->Prop):Nat->Array Bool->St->Prop
 |0,listed,st=>Region.ready .any ops listed=[]/\Q st
 |fuel+1,listed,st=>(Region.ready .any ops listed=[]->Q st)/\∀i∈Region.ready .any ops listed,match ops[i]? with
  |none=>c0h P G ops Q fuel (listed.setIfInBounds i true) st
  |some o=>qO P G true ops o (c0h P G ops Q fuel (listed.setIfInBounds i true)) st
theorem b6s{ops:Array Oper}{Q:St->Prop}{QQ:Exit->Act->World->Prop}:∀(fuel:Nat)(listed:Array Bool)(st:St),c0h P G ops Q fuel listed st->∀(base:dU)(R:Nat->Nat->Prop)(μ:Nat->Nat)(a:Act)(w:World),Rel P G base R μ st a w->
  (∀s a' w' R' μ',Q s->Rel P G base R' μ' s a' w'->Step base R w R' w'->QQ .normal a' w')->wpAny P .any ops QQ fuel listed a w
 |0,_,st,h,base,R,μ,a,w,hr,hk=>⟨h.1,hk st a w R μ h.2 hr (.refl _ _ _)⟩
 |fuel+1,listed,st,h,base,R,μ,a,w,hr,hk=>by
  refine⟨λh0=>hk st a w R μ (h.1 h0) hr (.refl _ _ _),λi hi=>?_⟩;have h1:=h.2 i hi;unfold wpOp;split
  .rename_i ho;rw[ho]at h1;exact b6s fuel _ st h1 base R μ a w hr hk
  .rename_i o ho;rw[ho]at h1;exact uL h1 hr λs v w' R' μ' h' jG tL=>b6s fuel _ s h' base R' μ' _ w' jG λs a' w2 R2 μ2 q1 q2 q3=>hk s a' w2 R2 μ2 q1 q2 (tL.trans q3)
def gR(ops:Array Oper)(listed:Array Bool):Prop:=∀k,listed.getD k false=true->∀o,ops[k]? =some o->∀e∈o.after,Region.binds .any e=true->listed.getD e.on false=true
variable{i j k:Nat}{listed:Array Bool}
theorem e1E(h0:listed.getD i true=false)(h1:listed.getD i false=true):False:=by
 rcases Nat.lt_or_ge i listed.size with h'|h'
 .simp[h']at h0 h1;rw[h0]at h1;cases h1
 .simp[Array.getElem?_eq_none h']at h1
theorem d6z{es:List Edge}{n:Nat}{rows:List Nat}:∀(acc:Nat),(es.foldl (λacc e=>if Region.binds .any e=true/\e.on<n then acc |||((1 <<<e.on) |||rows.getD (n-1-e.on) 0) else acc) acc).testBit i=true->
  acc.testBit i=true\/∃e∈es,Region.binds .any e=true/\e.on<n/\(e.on=i\/(rows.getD (n-1-e.on) 0).testBit i=true):=by
 induction es with
 |nil=>intro acc h;exact .inl h
 |cons e es ih=>
  intro acc h;simp only[List.foldl_cons]at h;rcases ih _ h with h|⟨e',h1,h2⟩
  .split at h
   .rename_i hb;rw[Nat.testBit_or,g3C,Nat.testBit_or,g3C]at h;rcases h with h|h|h
    .exact .inl h
    .rw[Nat.testBit_shiftLeft]at h;simp only[g3q,g4e]at h;have:i-e.on=0:=by
      have h2:=h.2;cases hx:i-e.on with
      |zero=>rfl
      |succ m=>rw[hx,Nat.testBit_succ]at h2;simp at h2
     exact .inr ⟨e,.head _,hb.1,hb.2,.inl (by omega)⟩
    .exact .inr ⟨e,.head _,hb.1,hb.2,.inr h⟩
   .exact .inl h
  .exact .inr ⟨e',.tail _ h1,h2⟩
theorem d3A(o:Oper)(r:List Oper)(n:Nat)(rows:List Nat):rowsOf (o::r) n rows=rowsOf r (n+1) ((o.after.toList.foldl (λacc e=>if Region.binds .any e=true/\e.on<n then acc |||((1 <<<e.on) |||rows.getD (n-1-e.on) 0) else acc) 0)::rows):=by rw[rowsOf];generalize (o.after.toList.foldl (λacc e=>if Region.binds .any e=true/\e.on<n then acc |||((1 <<<e.on) |||rows.getD (n-1-e.on) 0) else acc) 0)=m;cases m<;>rfl
theorem b6X{ops:Array Oper}{i:Nat}:∀(l:List Oper)(n:Nat)(rows:List Nat),rows.length=n->(∀j,l[j]? =ops[n+j]?)->
  (∀k,k<n->(rows.getD (n-1-k) 0).testBit i=true->∃o,ops[k]? =some o/\∃e∈o.after,Region.binds .any e=true/\(e.on=i\/(e.on<k/\(rows.getD (n-1-e.on) 0).testBit i=true)))->
  ∀k,k<n+l.length->((rowsOf l n rows).getD (n+l.length-1-k) 0).testBit i=true->∃o,ops[k]? =some o/\∃e∈o.after,Region.binds .any e=true/\(e.on=i\/(e.on<k/\((rowsOf l n rows).getD (n+l.length-1-e.on) 0).testBit i=true))
 |[],n,rows,_,_,h=>h
 |o::r,n,rows,hlen,hl,h=>by
  rw[d3A];generalize rI:(o.after.toList.foldl (λacc e=>if Region.binds .any e=true/\e.on<n then acc |||((1 <<<e.on) |||rows.getD (n-1-e.on) 0) else acc) 0)=row;have hlc:n+(o::r).length=(n+1)+r.length:=by simp;omega
  rw[hlc];have old:∀m,m<n->(row::rows).getD (n+1-1-m) 0=rows.getD (n-1-m) 0:=λm hm=>by
   have:n+1-1-m=(n-1-m)+1:=by omega
   rw[this];rfl
  refine b6X r (n+1) (row::rows) (by simp[hlen]) (λj=>by have:=hl (j+1);simpa[Nat.add_assoc,Nat.add_comm 1 j]using this) λk hk hb=>?_;by_cases hkn:k<n
  .rw[old k hkn]at hb;obtain⟨o1,h1,e,h2,h3,h4⟩:=h k hkn hb;refine⟨o1,h1,e,h2,h3,?_⟩;rcases h4 with h4|⟨h4,h5⟩
   .exact .inl h4
   .exact .inr ⟨h4,by rw[old e.on (by omega)];exact h5⟩
  .have:k=n:=by omega
   subst this;have h0:k+1-1-k=0:=by omega
   rw[h0]at hb;simp only[List.getD_cons_zero]at hb;rw[<-rI]at hb;rcases d6z 0 hb with hz|⟨e,h1,h2,h3,h4⟩
   .simp at hz
   .refine⟨o,by simpa using (hl 0).symm,e,by simpa using h1,h2,?_⟩;rcases h4 with h4|h4
    .exact .inl h4
    .exact .inr ⟨h3,by rw[old e.on h3];exact h4⟩
theorem eC(hc:gR ops listed)(hi:listed.getD i true=false)(n:Nat):∀(k:Nat),(∀o,ops[k]? =some o->∀e∈o.after,Region.binds .any e=true->listed.getD e.on false=true)->kG ops n k i=false:=by
 intro k
 induction k using Nat.strongRecOn with
 |_ k ih=>
  intro hk;cases hb:kG ops n k i with
  |false=>rfl
  |true=>
   unfold kG at hb;rw[g3q,g4e]at hb;obtain⟨aG,hb⟩:=hb;have mQ:0+ops.toList.length=ops.size:=by simp
   obtain⟨o,ho,e,he,hbd,h⟩:=b6X (ops:=ops) ops.toList 0 [] rfl (by simp) (λk hk=>absurd hk (Nat.not_lt_zero _)) k (by omega) (by rw[mQ];exact hb);have h1:=hk o ho e he hbd;rcases h with h|⟨h2,h3⟩
   .exact(e1E hi (h▸h1)).elim
   .have:=ih e.on h2 λo' xS=>hc e.on h1 o' xS;unfold kG at this;rw[mQ]at h3;rw[h3,Bool.and_true,decide_eq_false_iff_not]at this;exact absurd (Nat.lt_trans h2 aG) this
theorem gR.set(hc:gR ops listed)(hj:j∈Region.ready .any ops listed):gR ops (listed.setIfInBounds j true):=by
 intro k hk o ho e he hb;by_cases hjk:j=k
 .subst hjk;obtain⟨_,o',xS,eQ⟩:=mem_ready.1 hj;rw[ho]at xS;cases xS;exact getD_set_true (eQ e he hb)
 .rw[getD_set_ne false hjk]at hk;exact getD_set_true (hc k hk o ho e he hb)
theorem xX(h:pQ ops o=true)(hk:ops[k]? =some o)(hj:j<ops.size)(gJ:j≠k):kG ops ops.size j k=true\/kG ops ops.size k j=true:=by have h1:=g3t.1 h k (List.mem_range.2 (g3z.1 hk).1);simp only[hk,bne_self_eq_false,Bool.false_or]at h1;have h2:=g3t.1 h1 j (List.mem_range.2 hj);simpa[gJ,or_assoc]using h2
theorem a1U(h:qN d=true):mentions k d=false:=by cases d<;>first|rfl|cases h
theorem c3i(k:Nat)(v:Value):mentions k (ofConst v)=false:=by
 unfold ofConst;split
 .split<;>rfl
 .split<;>rfl
theorem rC(h:dI k st=true):(∀v∈st.tmps,mentions k v=false)/\(∀p∈st.H,p.1≠k/\vV k p.2=true)/\(∀c∈st.own,∀l∈c.2,l.a0Y k=false):=by unfold dI at h;simp only[g3q,g3t,bne_iff_ne,ne_eq,g3M]at h;exact⟨h.1.1,h.1.2,h.2⟩
theorem a5C(h1:∀v∈st.tmps,mentions k v=false)(h2:∀p∈st.H,p.1≠k/\vV k p.2=true)(h3:∀c∈st.own,∀l∈c.2,l.a0Y k=false):dI k st=true:=by unfold dI;simp only[g3q,g3t,bne_iff_ne,ne_eq,g3M];exact⟨⟨h1,h2⟩,h3⟩
theorem yI(h:dI k st=true)(x:Operand):mentions k (st.eval G x)=false:=by
 cases x with
 |tmp t=>
  simp only[St.eval,List.getD];cases ht:st.tmps[t]? with
  |none=>rfl
  |some v=>exact(rC h).1 v (g3v ht)
 |const v=>exact c3i k v
 |global g=>simp only[St.eval];split<;>rfl
 |func f=>rfl
theorem a7p{k:Nat}{o:bG}:∀{H:List (Nat×bG)},getKey k H=some o->(k,o)∈H
 |[],h=>by simp[getKey]at h
 |(k',o')::r,h=>by
  unfold getKey at h;split at h
  .rename_i he;cases h;subst he;exact .head _
  .exact .tail _ (a7p h)
theorem a1V(h:dI k st=true):getKey k st.H=none:=by
 cases hk:getKey k st.H with
 |none=>rfl
 |some o=>exact absurd rfl ((rC h).2.1 _ (a7p hk)).1
variable{cs z:List DV}
theorem c5W{k':Nat}(h:dI k st=true)(hk:getKey k' st.H=some (.cells cs)):∀c∈cs,mentions k c=false:=λc hc=>by have:=((rC h).2.1 _ (a7p hk)).2;simp only[vV,g3t,g3M]at this;exact this c hc
variable{t:TypeId}
theorem c9O{y:DV}(hc:∀c∈cs,mentions k c=false)(h:b4x P t cs=some y):mentions k y=false:=by
 unfold b4x at h;split at h
 .split at h
  .split at h
   .rcases b4A h with⟨ds,_,rfl⟩|⟨_,rfl⟩
    .rfl
    .exact a6y λc hc'=>hc c (g4r hc')
   .cases h
  .exact hc y (List.mem_of_head? h)
 .cases h
where
 a6y {k:Nat}:∀{cs:List DV},(∀c∈cs,mentions k c=false)->pW k cs=false
  |[],_=>rfl
  |c::r,h=>by simp only[pW,h c (.head _),a6y λx hx=>h x (.tail _ hx),Bool.or_false]
theorem a7q{k:Nat}:∀{cs:List DV},(∀c∈cs,mentions k c=false)->pW k cs=false
 |[],_=>rfl
 |c::r,h=>by simp only[pW,h c (.head _),a7q λx hx=>h x (.tail _ hx),Bool.or_false]
theorem b4G(h:mentions k d=false)(hc:xQ d=some cs):∀c∈cs,mentions k c=false:=by
 cases d with
 |d y=>cases hc;intro c hc;obtain⟨z,_,rfl⟩:=g3L.1 hc;rfl
 |ag xU=>obtain⟨_,rfl⟩:=b3z hc;intro c hc;obtain⟨i,hi⟩:=g3H hc;exact uJ (by simpa[mentions]using h) i c hi
 |undef=>cases hc
 |it _=>cases hc
 |cX _=>cases hc
 |a0W _=>cases hc
 |_=>cases hc;intro c hc;simp only[g3x]at hc;subst hc;exact h
theorem b4H{k:Nat}(h:dI k st=true):∀{l:List (Nat×Operand)}{ps:List (Nat×List DV)},a1p G st l=some ps->∀p∈ps,∀c∈p.2,mentions k c=false
 |[],ps,hp=>by simp[a1p]at hp;subst hp;simp
 |(i,x)::l,ps,hp=>by
  simp only[a1p]at hp;split at hp
  .rename_i y ds hy hds;simp at hp;subst hp;intro p hpm;rcases g3N.1 hpm with rfl|hpm
   .exact b4G (yI h x) hy
   .exact b4H h hds p hpm
  .cases hp
theorem c1t{ys:List DV}{off:Nat}(h1:∀c∈cs,mentions k c=false)(h2:∀c∈ys,mentions k c=false):∀c∈overwrite cs off ys,mentions k c=false:=λc hc=>by
 unfold overwrite at hc;simp only[g3Q]at hc;rcases hc with(hc|hc)|hc
 .exact h1 c (g4r hc)
 .exact h2 c hc
 .exact h1 c (List.mem_of_mem_drop hc)
theorem b6Y{k:Nat}{t:TypeId}:∀{ps:List (Nat×List DV)}{z r:List DV},(∀c∈z,mentions k c=false)->(∀p∈ps,∀c∈p.2,mentions k c=false)->b1z P t z ps=some r->∀c∈r,mentions k c=false
 |[],z,r,hz,_,h=>by simp[b1z]at h;subst h;exact hz
 |(i,v)::ps,z,r,hz,hp,h=>by
  simp only[b1z]at h;split at h
  .cases h
  .split at h
   .exact b6Y (c1t hz (hp _ (.head _))) (λp hpm=>hp p (.tail _ hpm)) h
   .cases h
theorem c5X(k:Nat)(v:Value):mentions k (cellOf v)=false:=by unfold cellOf;split<;>rfl
theorem c9P(k:Nat)(v:Value):mentions k (a3B t v)=false:=by
 unfold a3B;split
 .rfl
 .split<;>rfl
theorem c9Q(h:c5y P t=some z):∀c∈z,mentions k c=false:=by
 unfold c5y at h;obtain⟨v,_,h2⟩:=g3E.1 h;split at h2
 .cases h2;intro c hc;obtain⟨y,_,rfl⟩:=g3L.1 hc;exact c5X k y
 .cases h2
theorem c9R(h:c5x P t=some z):∀c∈z,mentions k c=false:=by unfold c5x at h;obtain⟨v,_,rfl⟩:=g3p.1 h;intro c hc;obtain⟨y,_,rfl⟩:=g3L.1 hc;exact c9P k y
theorem c5Y(hq:dW o.op=true)(hf:dI k st=true)(h:pH P G o st=some out):mentions k out.v=false:=by
 obtain⟨dst,op,ty,pos,after,guard⟩:=o;have he:∀x:Operand,mentions k (st.eval G x)=false:=yI hf;cases op<;>simp only[dW]at hq<;>try cases hq
 case move x=>simp only[pH,a4P,g3w]at h;subst h;exact he x
 case assign x=>simp only[pH,a4P,g3w]at h;subst h;exact he x
 case pick c a b=>
  simp only[pH,b6I]at h;split at h
  .simp only[g3w]at h;subst h;simp only;split
   .exact he a
   .exact he b
  .cases h
 case build t ps=>
  simp only[pH,b0q]at h;split at h
  .split at h
   .obtain⟨c,_,rfl⟩:=g3p.1 h;rfl
   .unfold a8I at h;split at h
    .rename_i z qs hz hps;obtain⟨cs,sS,rfl⟩:=g3p.1 h;exact a7q (b6Y (c9Q hz) (b4H hf hps) sS)
    .cases h
  .cases h
 case buildSlice t n ps=>
  simp only[pH,uW]at h;split at h
  .split at h
   .simp only[g3w]at h;subst h;rfl
   .cases h
  .cases h
 case load t x=>
  simp only[pH,b4y]at h;split at h
  .split at h
   .rename_i cs hk;obtain⟨y,hy,rfl⟩:=g3p.1 h;exact c9O (λc hc=>c5W hf hk c (List.mem_of_mem_drop hc)) hy
   .cases h
  .obtain⟨y,_,rfl⟩:=g3p.1 h;rfl
  .cases h
 case nilCheck x=>have:=he x;simp only[pH,yH]at h;split at h<;>first|(cases h;done)|(rename_i hx;rw[hx]at this;simp only[g3w]at h;subst h;exact this)
 case binOp op t x y u=>
  simp only[pH,b6J,a2A,c9t]at h;split at h
  .split at h<;>first|(cases h;done)|(simp only[g3w]at h;subst h;simp only;first|rfl|(split<;>rfl))
  .split at h
   .obtain⟨c,_,rfl⟩:=g3p.1 h;rfl
   .cases h
 case unOp op t x=>
  simp only[pH,vUn]at h;split at h
  .obtain⟨c,_,rfl⟩:=g3p.1 h;rfl
  .cases h
 case convert src dst x=>
  simp only[pH,b6K]at h;split at h
  .obtain⟨c,_,rfl⟩:=g3p.1 h;rfl
  .cases h
 case extract x i=>
  simp only[pH,a2B]at h;split at h
  .obtain⟨c,_,rfl⟩:=g3p.1 h;rfl
  .cases h
 case field t x i=>
  simp only[pH,b0r]at h;split at h
  .obtain⟨c,_,rfl⟩:=g3p.1 h;rfl
  .cases h
 case index t x i=>
  simp only[pH,b0s]at h;split at h
  .obtain⟨j,_,h⟩:=g3E.1 h;obtain⟨c,_,rfl⟩:=g3p.1 h;rfl
  .obtain⟨j,_,h⟩:=g3E.1 h;obtain⟨c,_,rfl⟩:=g3p.1 h;rfl
  .cases h
 case indexAddr t x i=>
  have hx:=he x;simp only[pH,uX]at h;split at h
  .obtain⟨j,_,h⟩:=g3E.1 h;obtain⟨c,_,h⟩:=g3E.1 h;split at h
   .simp only[g3w]at h;subst h;rfl
   .cases h
  .rename_i hxe _;split at h
   .cases h
   .obtain⟨j,_,rfl⟩:=g3p.1 h;rw[hxe]at hx;exact hx
  .split at h
   .cases h
   .obtain⟨j,_,rfl⟩:=g3p.1 h;rfl
  .cases h
 case fieldAddr t x i=>
  have hx:=he x;simp only[pH,uY]at h;split at h
  .split at h
   .cases h
   .split at h
    .rename_i hxe;simp only[g3w]at h;subst h;rw[hxe]at hx;exact hx
    .simp only[g3w]at h;subst h;rfl
    .cases h
  .cases h
 case slice t x lo hi mx=>
  simp only[pH,b0t]at h;split at h
  .obtain⟨j,_,h⟩:=g3E.1 h;obtain⟨c,_,rfl⟩:=g3p.1 h;rfl
  .split at h
   .obtain⟨j,_,h⟩:=g3E.1 h;obtain⟨c,_,rfl⟩:=g3p.1 h;rfl
   .cases h
  .split at h
   .obtain⟨j,_,h⟩:=g3E.1 h;obtain⟨c,_,rfl⟩:=g3p.1 h;rfl
   .cases h
  .split at h
   .simp only[g3w]at h;subst h;rfl
   .cases h
  .split at h
   .simp only[g3w]at h;subst h;rfl
   .cases h
  .cases h
 case call c=>
  obtain⟨callee,args,ts⟩:=c;cases callee with
  |value f=>simp[pH]at h
  |invoke r m=>simp at hq
  |builtin b=>
   simp only[pH,uZ]at h;split at h
   .simp only[d3h]at h;split at h
    .simp only[g3w]at h;subst h;rfl
    .simp only[g3w]at h;subst h;rfl
    .simp only[g3w]at h;subst h;rfl
    .cases h
   .simp at hq
   .simp only[d3i]at h;split at h
    .simp only[g3w]at h;subst h;rfl
    .cases h
   .simp only[d3j]at h;split at h
    .simp only[g3w]at h;subst h;rfl
    .cases h
   .cases h
theorem cV{v:DV}{act:OA}(h:dI k st=true)(hv:mentions k v=false):dI k (finish st dst v act)=true:=by
 obtain⟨h1,h2,h3⟩:=rC h;cases dst with
 |none=>exact h
 |some d=>
  refine a5C (λu hu=>?_) h2 (λc hc l hl=>?_)
  .rcases List.mem_or_eq_of_mem_set hu with hu|rfl
   .exact h1 u hu
   .exact hv
  .have drop:∀c∈dH (.t d) st.own,∀l∈c.2,l.a0Y k=false:=λc hc l hl=>by obtain⟨c0,hc0,rfl⟩:=g3L.1 hc;exact h3 c0 hc0 l (List.mem_filter.1 hl).1
   simp only[finish]at hc;cases act with
   |no=>exact drop c hc l hl
   |al l0=>
    simp only[gL]at hc;split at hc
    .exact h3 c hc l hl
    .unfold addAlias at hc;obtain⟨c0,hc0,rfl⟩:=g3L.1 hc;split at hl
     .rcases g3N.1 hl with rfl|hl
      .rfl
      .exact drop c0 hc0 l hl
     .exact drop c0 hc0 l hl
   |fresh e=>
    simp only[gL]at hc;rcases g3N.1 hc with rfl|hc
    .simp only[g3x]at hl;subst hl;rfl
    .exact drop c hc l hl
theorem QY.free{act:OA}(hq:dW o.op=true)(h:QY P G all o d act st)(hf:dI k st=true):mentions k d=false:=by
 rcases h with⟨_,⟨f,ds,own,_,_,_,hk,_⟩|⟨_,_,ho⟩|⟨_,f,g3o,ks,_,_,_,_,_,hk,_⟩⟩|⟨_,rfl,_⟩
 .exact a1U hk
 .exact c5Y hq hf ho
 .exact a1U hk
 .rfl
theorem gZ(h:(isApp o||gS o)=true):rU o=true:=by unfold rU;rw[h];rfl
theorem kS(h:rU o=true):kY G o st=none/\eB G o st=none/\dW o.op=false/\a5B o=false:=by
 obtain⟨dst,op,ty,pos,after,guard⟩:=o;cases op with
 |call c=>
  obtain⟨callee,args,ts⟩:=c;cases callee with
  |builtin b=>cases b<;>first|exact⟨rfl,rfl,rfl,rfl⟩|(simp[rU,isApp,gS,b5M]at h)
  |_=>simp[rU,isApp,gS,b5M]at h
 |alloc e=>exact⟨rfl,rfl,rfl,rfl⟩
 |store _ _ _=>exact⟨rfl,rfl,rfl,rfl⟩
 |_=>simp[rU,isApp,gS,b5M]at h
def Eff(P:Program)(G:GT)(all:Array Oper)(o:Oper)(st s:St):Prop:=
 (dW o.op=true/\∃d act,QY P G all o d act st/\s=finish st o.dst d (a9v all o act))\/
 (rU o=true/\((gC o all st.tmps=some true/\∃out,pH P G o st=some out/\s=finish out.st o.dst out.v out.act)\/(gC o all st.tmps=some false/\s=finish st o.dst (.cX []) .no)))
theorem eR(h:(dW o.op=true/\pQ all o=false)\/rU o=true):qO P G true all o K st↔∃s,Eff P G all o st s/\K s:=by
 rcases h with⟨hq,hal⟩|hs
 .rw[c9N hq hal];constructor
  .rintro⟨d,act,h1,h2⟩;exact⟨_,.inl ⟨hq,d,act,h1,rfl⟩,h2⟩
  .rintro⟨s,⟨_,d,act,h1,rfl⟩|⟨hs,_⟩,h2⟩
   .exact⟨d,act,h1,h2⟩
   .rw[(kS (G:=G) (st:=st) hs).2.2.1]at hq;cases hq
 .obtain⟨h1,h2,h3,_⟩:=kS (G:=G) (st:=st) hs;have a1r:∀d act,b1I true all o d act=act:=λd act=>by simp[b1I,h3]
  unfold qO;rw[h1,h2];simp only;constructor
  .intro h;split at h
   .rename_i hw;split at h
    .rename_i out ho;rw[a1r]at h;exact⟨_,.inr ⟨hs,.inl ⟨hw,out,ho,rfl⟩⟩,h⟩
    .cases h
   .rename_i hw;exact⟨_,.inr ⟨hs,.inr ⟨hw,rfl⟩⟩,h⟩
   .cases h
  .rintro⟨s,⟨hq,_⟩|⟨_,⟨hw,out,ho,rfl⟩|⟨hw,rfl⟩⟩,hk⟩
   .rw[h3]at hq;cases hq
   .rw[hw];simp only;rw[ho];simp only;rw[a1r];exact hk
   .rw[hw];exact hk
theorem gP{x y:Option Tmp}{a:OA}(h:∀t,x=some t->y≠some t)(ha:a=.no\/∃k,a=.fresh k):finish (finish st x d .no) y e a=finish (finish st y e a) x d .no:=by
 cases x with
 |none=>cases y<;>rfl
 |some t=>
  cases y with
  |none=>rfl
  |some u=>
   have gJ:t≠u:=λhe=>h t rfl (he▸rfl);simp only[finish];rw[List.set_comm _ _ gJ];congr 1;rcases ha with rfl|⟨k,rfl⟩
   .exact tC _
   .exact(b0C (Ne.symm gJ)).symm
theorem b1K{l x:Loc}(h:l≠x):∀own:List (TypeId×List Loc),jW l (dH x own)=(jW l own).map λp=>(p.1,dH x p.2)
 |[]=>rfl
 |c::r=>by
  have hc:=a9I h c.2;have ih:=b1K h r;unfold dH at ih|-;simp only[List.map_cons,jW,hc];split
  .rfl
  .rw[ih];cases jW l r<;>rfl
theorem b4I{l:Loc}:∀{own:List (TypeId×List Loc)}{e:TypeId}{gM:List (TypeId×List Loc)},jW l own=some (e,gM)->∀c∈gM,c∈own
 |c::r,e,gM,h,x,hx=>by
  unfold jW at h;split at h
  .cases h;exact .tail _ hx
  .obtain⟨p,hp,he⟩:=g3p.1 h;cases he;rcases g3N.1 hx with rfl|hx
   .exact .head _
   .exact .tail _ (b4I hp x hx)
theorem a1d(h:isApp o=true)(ho:pH P G o st=some out):(∃e,out.act=.fresh e)/\(∃es,out.v=.d (.sl es))/\∃gM,out.st={st with own:=gM}/\∀c∈gM,c∈st.own:=by
 obtain⟨dst,op,ty,pos,after,guard⟩:=o;cases op with
 |call c=>
  obtain⟨callee,args,ts⟩:=c;cases callee with
  |builtin b=>
   cases b<;>simp[isApp]at h;simp only[pH,uZ]at ho;split at ho
   .rename_i h1 _ _;cases h1
   .unfold a5t at ho;split at ho
    .split at ho
     .split at ho
      .split at ho
       .simp only[g3w]at ho;subst ho;exact⟨⟨_,rfl⟩,⟨_,rfl⟩,st.own,rfl,λ_ h=>h⟩
       .cases ho
      .split at ho
       .rename_i e' gM ht;split at ho
        .simp only[g3w]at ho;subst ho;exact⟨⟨_,rfl⟩,⟨_,rfl⟩,gM,rfl,b4I ht⟩
        .cases ho
       .cases ho
      .cases ho
     .cases ho
    .cases ho
   .rename_i h1 _;cases h1
   .rename_i h1 _;cases h1
   .cases ho
  |_=>simp[isApp]at h
 |_=>simp[isApp]at h
theorem a0t(h:isApp o=true)(hl:∀t,dst=some t->t ∉ o.looksAt all):pH P G o (finish st dst d .no)=(pH P G o st).map λout=>⟨out.v,out.act,finish out.st dst d .no⟩:=by
 have he:=b0A (G:=G) (st:=st) (d:=d) (act:=.no) hl;obtain⟨f6r,op,ty,pos,after,guard⟩:=o;cases op with
 |call c=>
  obtain⟨callee,args,ts⟩:=c;cases callee with
  |builtin b=>
   cases b<;>simp[isApp]at h;have mem:∀{x:Operand}{l:List Operand},args.toList=l->x∈l->(finish st dst d .no).eval G x=st.eval G x:=λhl hx=>he _ (by simp only[Op.operands,Call.operands];rw[<-g4o];simp[hl,hx]);simp only[pH,uZ];split
   .rename_i h1 _ _;cases h1
   .rename_i s x t' t'' _ heq _;have hs:=mem heq (x:=s) (by simp);have hx:=mem heq (x:=x) (by simp);simp only[a5t,hs,hx];split
    .split
     .split
      .split
       .rfl
       .rfl
      .rename_i xs i _;cases dst with
       |none=>
        simp only[finish];split
        .split
         .rfl
         .rfl
        .rfl
       |some u=>
        have gJ:(Loc.t i)≠ .t u:=λe=>hl u rfl (by cases e;exact List.mem_append_left _ (g3V.2 ⟨.tmp i,by simp[Op.operands,Call.operands,heq],rfl⟩))
        simp only[finish,gL,b1K gJ];cases jW (.t i) st.own with
        |none=>rfl
        |some p=>
         obtain⟨e',gM⟩:=p;simp only[Option.map_some];split
         .rfl
         .rfl
      .rfl
     .rfl
    .rfl
   .rename_i h1 _;cases h1
   .rename_i h1 _;cases h1
   .rfl
  |_=>simp[isApp]at h
 |_=>simp[isApp]at h
variable{H:List (Nat×bG)}
theorem c5Z(h:isApp o=true):pH P G o {st with H:=H}=(pH P G o st).map λout=>⟨out.v,out.act,{out.st with H:=H}⟩:=by
 obtain⟨f6r,op,ty,pos,after,guard⟩:=o;have he:∀x:Operand,({st with H:=H}:St).eval G x=st.eval G x:=λx=>by cases x<;>rfl
 cases op with
 |call c=>
  obtain⟨callee,args,ts⟩:=c;cases callee with
  |builtin b=>
   cases b<;>simp[isApp]at h;simp only[pH,uZ];split
   .rename_i h1 _ _;cases h1
   .simp only[a5t,he];split
    .split
     .split
      .split<;>rfl
      .cases jW _ st.own with
       |none=>rfl
       |some p=>obtain⟨e',gM⟩:=p;simp only;split<;>rfl
      .rfl
     .rfl
    .rfl
   .rename_i h1 _;cases h1
   .rename_i h1 _;cases h1
   .rfl
  |_=>simp[isApp]at h
 |_=>simp[isApp]at h
theorem d3C(h:∀c∈cs,mentions k c=false):vV k (b6G cs)=true:=by
 unfold b6G;split
 .rfl
 .simp only[vV,g3t,g3M];exact h
theorem vE(h:gS o=true):∃d,o.dst=some d/\((∃cs:bG,(∀k,vV k cs=true)/\∀st:St,pH P G o st=some ⟨.ptr d 0,.no,jS st d cs⟩)\/∀st:St,pH P G o st=none):=by
 obtain⟨dst,op,ty,pos,after,guard⟩:=o;cases op with
 |alloc e=>
  cases dst with
  |none=>simp[gS]at h
  |some d=>
   refine⟨d,rfl,?_⟩;simp only[pH,b3v];cases hz:mM P e with
   |some cs=>
    simp only;by_cases hd:d<100000
    .simp only[hd,if_true];exact .inl ⟨.cells (cs.map .d),λk=>by simp only[vV,g3t,g3M];intro c hc;obtain⟨y,_,rfl⟩:=g3L.1 hc;rfl,λ_=>rfl⟩
    .simp only[hd,if_false];exact .inr λ_=>trivial
   |none=>
    simp only;cases hc:c5x P e with
    |some cs=>
     simp only;by_cases hd:d<100000
     .simp only[hd,if_true];exact .inl ⟨b6G cs,λk=>d3C (c9R hc),λ_=>rfl⟩
     .simp only[hd,if_false];exact .inr λ_=>trivial
    |none=>exact .inr λ_=>rfl
 |_=>simp[gS]at h
theorem a7r{α:Type}{f:α->α}:∀{l:List α},(∀x∈l,f x=x)->l.map f=l
 |[],_=>rfl
 |x::r,h=>by rw[List.map_cons,h x (.head _),a7r λy hy=>h y (.tail _ hy)]
theorem cA{o:bG}(h:dI k st=true):jS st k o={st with H:=cF k o st.H}:=by
 obtain⟨h1,h2,h3⟩:=rC h;unfold jS;have e1:st.tmps.map (oW k)=st.tmps:=a7r λv hv=>by unfold oW;rw[h1 v hv,if_neg (by simp)]
 have e2:(st.H.map λp=>(p.1,a3A k p.2))=st.H:=a7r λp hp=>by
  obtain⟨a,b⟩:=p;have:=(h2 _ hp).2;cases b with
  |cells cs=>simp only[vV,g3t,g3M]at this;simp only[a3A];rw[a7r λv hv=>by unfold oW;rw[this v hv,if_neg (by simp)]]
  |_=>rfl
 have e3:dropKey k st.own=st.own:=a7r λc hc=>by obtain⟨a,b⟩:=c;simp only;rw[List.filter_eq_self.2 λl hl=>by simp[h3 _ hc l hl]]
 rw[e1,e2,e3]
theorem b4J{k:Nat}{o:bG}:∀{H:List (Nat×bG)}{p:Nat×bG},p∈a2z k o H->p=(k,o)\/p∈H
 |(k',o')::r,p,h=>by
  unfold a2z at h;split at h
  .rcases g3N.1 h with h|h
   .exact .inl h
   .exact .inr (.tail _ h)
  .rcases g3N.1 h with h|h
   .exact .inr (h▸ .head _)
   .rcases b4J h with h|h
    .exact .inl h
    .exact .inr (.tail _ h)
theorem b4K{k:Nat}{o:bG}:∀{H:List (Nat×bG)}{p:Nat×bG},p∈pB k o H->p=(k,o)\/p∈H
 |[],p,h=>by simp[pB]at h;exact .inl h
 |(k',o')::r,p,h=>by
  unfold pB at h;split at h
  .rcases g3N.1 h with h|h
   .exact .inl h
   .exact .inr h
  .rcases g3N.1 h with h|h
   .exact .inr (h▸ .head _)
   .rcases b4K h with h|h
    .exact .inl h
    .exact .inr (.tail _ h)
theorem b4L{o:bG}{p:Nat×bG}(h:p∈cF k o H):p=(k,o)\/p∈H:=by
 unfold cF at h;split at h
 .exact b4J h
 .exact b4K h
theorem a7s{d:Nat}{cs:bG}(hd:d≠k)(hc:vV k cs=true)(h:dI k st=true):dI k (jS st d cs)=true:=by
 obtain⟨h1,h2,h3⟩:=rC h;have kill:∀v:DV,mentions k v=false->mentions k (oW d v)=false:=λv hv=>by
  unfold oW;split
  .rfl
  .exact hv
 refine a5C (λv hv=>?_) (λp hp=>?_) λc hcc l hl=>?_
 .obtain⟨u,hu,rfl⟩:=g3L.1 hv;exact kill u (h1 u hu)
 .rcases b4L hp with rfl|hp
  .exact⟨hd,hc⟩
  .obtain⟨q,hq,rfl⟩:=g3L.1 hp;obtain⟨q1,q2⟩:=h2 q hq;refine⟨q1,?_⟩;cases hq2:q.2 with
   |cells c0=>rw[hq2]at q2;simp only[vV,a3A,g3t,g3M]at q2|-;intro v hv;obtain⟨u,hu,rfl⟩:=g3L.1 hv;exact kill u (q2 u hu)
   |_=>rfl
 .obtain⟨c0,hc0,rfl⟩:=g3L.1 hcc;exact h3 c0 hc0 l (List.mem_filter.1 hl).1
theorem c3j:dropKey k (dH x own)=dH x (dropKey k own):=by simp only[dropKey,dH,List.map_map];refine List.map_congr_left λc _=>?_;simp only[Function.comp,List.filter_filter,Bool.and_comm]
theorem b1L(h:b5M o=true):o.dst=none/\∃t a x,o.op=.store t a x:=by
 obtain⟨dst,op,ty,pos,after,guard⟩:=o;cases op with
 |store t a x=>
  cases dst with
  |none=>exact⟨rfl,t,a,x,rfl⟩
  |some d=>simp[b5M]at h
 |_=>simp[b5M]at h
theorem d6A(h:b5M o=true)(ho:pH P G o st=some out):out.v=.cX []/\out.act=.no/\out.st.tmps=st.tmps:=by
 obtain⟨_,t,a,x,qD⟩:=b1L h;simp only[pH,qD,uF]at ho;split at ho
 .split at ho
  .split at ho
   .simp only[g3w]at ho;subst ho;exact⟨rfl,rfl,rfl⟩
   .cases ho
  .cases ho
 .cases ho
theorem c1u(h:b5M o=true)(hl:∀t,dst=some t->t ∉ o.looksAt all):pH P G o (finish st dst d .no)=(pH P G o st).map λout=>⟨out.v,out.act,finish out.st dst d .no⟩:=by
 have he:=b0A (G:=G) (st:=st) (d:=d) (act:=.no) hl;obtain⟨_,t,a,x,qD⟩:=b1L h;have ha:=he a (by simp[qD,Op.operands]);have hx:=he x (by simp[qD,Op.operands]);have hxl:∀u s,dst=some u->xR x=.al (.t s)->s≠u:=λu s hu hs e=>by
  cases x with
  |tmp j=>simp only[xR,OA.al.injEq,Loc.t.injEq]at hs;exact hl u hu (by rw[<-e, <- hs];exact List.mem_append_left _ (g3V.2 ⟨.tmp j,by simp[qD,Op.operands],rfl⟩))
  |_=>cases hs
 simp only[pH,qD,uF,ha,hx,a7o];split
 .rename_i k off ys _ _;split
  .split
   .simp only[Option.map_some,g3w,Out.mk.injEq,true_and];cases dst with
    |none=>rfl
    |some u=>
     simp only[finish,St.mk.injEq,true_and];split
     .rcases a3I (st.eval G x) (xR x)with h1|h1
      .rw[h1];exact(tC _)
      .rw[h1];cases hx':xR x with
       |no=>exact(tC _)
       |al l=>
        cases x with
        |tmp j=>simp only[xR,OA.al.injEq]at hx';subst hx';have hju:(Loc.t j)≠ .t u:=λe=>hxl u j rfl rfl (by cases e;rfl);simp only[gL];rw[if_neg (by simp),if_neg (by simp),tC,b6W hju (by simp)]
        |_=>cases hx'
       |fresh e=>cases x<;>cases hx'
     .exact c3j
   .rfl
  .rfl
 .rfl
theorem d6B(hq:b0z o.op=true)(he:∀x∈o.op.operands,st'.eval G x=st.eval G x):pH P G o st'=(pH P G o st).map λout=>⟨out.v,out.act,st'⟩:=by
 obtain⟨dst,op,ty,pos,after,guard⟩:=o;have xW:∀(x:Option Operand)(d n:Nat),(∀y,x=some y->st'.eval G y=st.eval G y)->jT G st' x d n=jT G st x d n:=λx d n hx=>by
  cases x with
  |none=>rfl
  |some y=>simp only[jT,hx y rfl]
 cases op<;>simp only[b0z]at hq<;>try cases hq
 all_goals simp only[Op.operands]at he
 case move x=>simp[pH,a4P,he]
 case assign x=>simp[pH,a4P,he]
 case pick c a b=>simp only[pH,b6I,he c (by simp),he a (by simp),he b (by simp)];split<;>rfl
 case nilCheck x=>simp only[pH,yH,he x (by simp)];split<;>rfl
 case binOp op t x y u=>
  simp only[pH,b6J,a2A,c9t,he x (by simp),he y (by simp)];split
  .split<;>rfl
  .split
   .simp[g3R,Function.comp_def]
   .rfl
 case unOp op t x=>
  simp only[pH,vUn,he x (by simp)];split
  .simp[g3R,Function.comp_def]
  .rfl
 case convert src dst x=>
  simp only[pH,b6K,he x (by simp)];split
  .simp[g3R,Function.comp_def]
  .rfl
 case extract x i=>
  simp only[pH,a2B,he x (by simp)];split
  .simp[g3R,Function.comp_def]
  .rfl
 case field t x i=>
  simp only[pH,b0r,he x (by simp)];split
  .simp[g3R,Function.comp_def]
  .rfl
 case index t x i=>
  simp only[pH,b0s,he x (by simp),he i (by simp)];split
  .simp[g4l,g3R,Function.comp_def]
  .simp[g4l,g3R,Function.comp_def]
  .rfl
 case indexAddr t x i=>
  simp only[pH,uX,he x (by simp),he i (by simp)];split
  .rw[g4l];congr 1;funext j;simp only[Function.comp];rw[g4l];congr 1;funext cs;simp only[Function.comp];split<;>rfl
  .split
   .rfl
   .simp[g3R,Function.comp_def]
  .split
   .rfl
   .simp[g3R,Function.comp_def]
  .rfl
 case fieldAddr t x i=>
  simp only[pH,uY,he x (by simp)];split
  .split
   .rfl
   .split<;>rfl
  .rfl
 case slice t x lo hi mx=>
  have qZ:∀y,lo=some y->st'.eval G y=st.eval G y:=λy hy=>he y (by simp[hy]);have hhi:∀y,hi=some y->st'.eval G y=st.eval G y:=λy hy=>he y (by simp[hy]);have hmx:∀y,mx=some y->st'.eval G y=st.eval G y:=λy hy=>he y (by simp[hy]);simp only[pH,b0t,he x (by simp),xW lo _ _ qZ,xW hi _ _ hhi];split
  .simp[g4l,g3R,Function.comp_def]
  .split
   .simp[g4l,g3R,Function.comp_def]
   .rfl
  .split
   .simp[g4l,g3R,Function.comp_def]
   .rfl
  .rw[xW (some _) _ _ λy hy=>hmx y hy];split<;>rfl
  .rw[xW (some _) _ _ λy hy=>hmx y hy];split<;>rfl
  .rfl
theorem qE(h:b0z o.op=true):dW o.op=true/\eB G o st=none/\kY G o st=none:=by obtain⟨dst,op,ty,pos,after,guard⟩:=o;cases op<;>simp only[b0z]at h<;>first|exact⟨rfl,rfl,rfl⟩|cases h
theorem QY.pure(h:QY P G all o d ac st)(hq:b0z o.op=true)(ht:st'.tmps=st.tmps):QY P G all o d ac st':=by
 have he:∀x:Operand,st'.eval G x=st.eval G x:=λx=>by cases x<;>simp[St.eval,ht]
 obtain⟨_,h1,h2⟩:=qE (G:=G) (st:=st) hq;obtain⟨_,h1',h2'⟩:=qE (G:=G) (st:=st') hq;rcases h with⟨hw,⟨f,ds,own,hc,_⟩|⟨hc,hch,ho⟩|⟨hc,f,g3o,ks,hch,_⟩⟩|⟨hw,h3⟩
 .rw[h2]at hc;cases hc
 .exact .inl ⟨by rw[ht];exact hw,.inr (.inl ⟨h2',h1',by rw[d6B hq (λx _=>he x),ho];rfl⟩)⟩
 .rw[h1]at hch;cases hch
 .exact .inr ⟨by rw[ht];exact hw,h3⟩
theorem b6Z{ad x:Operand}(ho:o.op=.store t ad x)(hf:dI k st=true)(h:pH P G o st=some out):dI k out.st=true/\mentions k out.v=false:=by
 obtain⟨h1,h2,h3⟩:=rC hf;simp only[pH,ho,uF]at h;split at h
 .rename_i key off ys ha hx;have gJ:key≠k:=λe=>by have:=yI (G:=G) hf ad;rw[ha]at this;simp only[mentions,beq_eq_false_iff_ne,ne_eq]at this;exact this e
  split at h
  .rename_i cs hk;split at h
   .simp only[g3w]at h;subst h;refine⟨a5C h1 (λp hp=>?_) λc hc l hl=>?_,rfl⟩
    .rcases b4L hp with rfl|hp
     .refine⟨gJ,?_⟩;simp only[vV,g3t,g3M];exact c1t (λc hc=>c5W hf hk c hc) (b4G (yI hf x) hx)
     .exact h2 p hp
    .simp only at hc;have drop:∀c∈dH (.c key off) st.own,∀l∈c.2,l.a0Y k=false:=λc hc l hl=>by obtain⟨c0,hc0,rfl⟩:=g3L.1 hc;exact h3 c0 hc0 l (List.mem_filter.1 hl).1
     have zD:(Loc.c key off).a0Y k=false:=by simp[Loc.a0Y,gJ]
     split at hc
     .generalize uV (st.eval G x) (xR x)=act at hc;cases act with
      |no=>exact drop c hc l hl
      |al l0=>
       simp only[gL]at hc;split at hc
       .exact h3 c hc l hl
       .unfold addAlias at hc;obtain⟨c0,hc0,rfl⟩:=g3L.1 hc;split at hl
        .rcases g3N.1 hl with rfl|hl
         .exact zD
         .exact drop c0 hc0 l hl
        .exact drop c0 hc0 l hl
      |fresh e=>
       simp only[gL]at hc;rcases g3N.1 hc with rfl|hc
       .simp only[g3x]at hl;subst hl;exact zD
       .exact drop c hc l hl
     .obtain⟨c0,hc0,rfl⟩:=g3L.1 hc;exact h3 c0 hc0 l (List.mem_filter.1 hl).1
   .cases h
  .cases h
 .cases h
theorem wZ(h:Eff P G all o st s)(hf:dI k st=true)(hn:gS o=true->o.dst≠some k):dI k s=true:=by
 rcases h with⟨hq,d,act,hy,rfl⟩|⟨hs,⟨hw,out,ho,rfl⟩|⟨hw,rfl⟩⟩
 .exact cV hf (hy.free hq hf)
 .cases ha:isApp o with
  |true=>obtain⟨_,⟨es,hv⟩,gM,pP,a3v⟩:=a1d ha ho;obtain⟨h1,h2,h3⟩:=rC hf;refine cV ?_ (by rw[hv];rfl);rw[pP];exact a5C h1 h2 λc hc=>h3 c (a3v c hc)
  |false=>
   cases hs2:gS o with
   |true=>
    obtain⟨d,hd,⟨cs,sS,hv⟩|hv⟩:=vE (P:=P) (G:=G) hs2
    .rw[hv]at ho;cases ho;have hdk:d≠k:=λe=>hn hs2 (e▸hd);exact cV (a7s hdk (sS k) hf) (by simp[mentions,hdk])
    .rw[hv]at ho;cases ho
   |false=>
    have pP:b5M o=true:=by simpa[rU,ha,hs2]using hs
    obtain⟨_,t,a,x,qD⟩:=b1L pP;obtain⟨h1,h2⟩:=b6Z qD hf ho;exact cV h1 h2
 .exact cV hf rfl
theorem a2p(x:Operand):({st with H:=H}:St).eval G x=st.eval G x:=by cases x<;>rfl
theorem b4M(x:Operand):({st with own:=own}:St).eval G x=st.eval G x:=by cases x<;>rfl
theorem c1v(h:gS o=true):wK ops o=false:=by
 obtain⟨dst,op,ty,pos,after,guard⟩:=o;cases op with
 |alloc e=>cases guard<;>cases dst<;>rfl
 |_=>simp[gS]at h
theorem b1M{x:Oper}{s1 s12:St}(hap:x.apart ops y=true)(hp:tB ops x y=true)(fx:gS x=true->∀d,x.dst=some d->dI d st=true)(fy:gS y=true->∀d,y.dst=some d->dI d st=true)(h1:Eff P G ops x st s1)(h2:Eff P G ops y s1 s12):∃s2,Eff P G ops y st s2/\Eff P G ops x s2 s12:=by
 obtain⟨a1,a2,a3⟩:=Oper.apart_spec hap;have a2':∀t,y.dst=some t->x.dst≠some t:=λt ht he=>a2 t he ht;unfold tB at hp;simp only[g3C,g3q,g3M]at hp;have noq:∀{o:Oper}{a:OA},wK ops o=false->a9v ops o a=.no:=λhn=>by unfold a9v;rw[hn];rfl
 rcases hp with((((((⟨⟨hqx,hqy⟩,hnn⟩|⟨⟨hqx,hsy⟩,hnx⟩)|⟨⟨⟨hsx,hqy⟩,hny⟩,hcy⟩)|⟨hqx,d2b⟩)|⟨⟨d2c,hqy⟩,hcy⟩)|⟨⟨hsx,hsy⟩,hnn⟩)|⟨⟨hpx,hnx⟩,hsy⟩)|⟨⟨hsx,hpy⟩,hny⟩
 ·
  rcases h1 with⟨_,d,ax,hx,rfl⟩|⟨hs,_⟩
  .rcases h2 with⟨_,e,ay,hy,rfl⟩|⟨hs,_⟩
   .have hy':=(QY.finish hqy a1).1 hy;refine⟨_,.inl ⟨hqy,e,ay,hy',rfl⟩,.inl ⟨hqx,d,ax,(QY.finish hqx a3).2 hx,?_⟩⟩;exact a1c a2 a1 a3 hnn hx.act hy'.act
   .rw[(kS (G:=G) (st:=st) hs).2.2.1]at hqy;cases hqy
  .rw[(kS (G:=G) (st:=st) hs).2.2.1]at hqx;cases hqx
 ·
  have a6R:(isApp y||gS y)=true:=by simp[hsy]
  rcases h1 with⟨_,d,ax,hx,rfl⟩|⟨hs,_⟩
  .rw[noq hnx]at h2;rcases h2 with⟨hq,_⟩|⟨_,⟨hw,out,ho,rfl⟩|⟨hw,rfl⟩⟩
   .rw[(kS (G:=G) (st:=st) (gZ a6R)).2.2.1]at hq;cases hq
   .rw[bM a1]at hw;cases ha:isApp y with
    |true=>
     rw[a0t ha a1]at ho;obtain⟨f6s,ho0,rfl⟩:=g3p.1 ho;obtain⟨⟨e,a1r⟩,_,gM,pP,a3v⟩:=a1d ha ho0;refine⟨_,.inr ⟨gZ a6R,.inl ⟨hw,f6s,ho0,rfl⟩⟩,.inl ⟨hqx,d,ax,?_,?_⟩⟩
     .refine(QY.finish hqx a3).2 ?_;rw[pP];refine QY.to hx hqx rfl (λz _=>b4M z) (λ_ _ _ _=>rfl) (λ_ _ _ h=>h) (λ_ ks _ vB=>?_);exact g3t.2 λc hc=>g3t.1 vB c (a3v c hc)
     .simp only;rw[noq hnx,a1r,gP a2 (.inr ⟨e,rfl⟩)]
    |false=>
     have hny:gS y=true:=by simpa[ha]using a6R
     obtain⟨k,hk,⟨cs,sS,hv⟩|hv⟩:=vE (P:=P) (G:=G) hny
     .have hf:=fy hny k hk;have hfd:=hx.free hqx hf;have hf1:dI k (finish st x.dst d .no)=true:=cV hf hfd;rw[hv]at ho;cases ho;rw[cA hf1];refine⟨_,.inr ⟨gZ a6R,.inl ⟨hw,_,hv st,rfl⟩⟩,.inl ⟨hqx,d,ax,?_,?_⟩⟩
      .refine(QY.finish hqx a3).2 ?_;simp only;rw[cA hf];refine QY.to hx hqx rfl (λz _=>a2p z) (λz _ k' hm=>?_) (λ_ k' ob zD=>?_) (λ_ ks _ vB=>vB)
       .have:k≠k':=λe=>by subst e;rw[yI hf z]at hm;cases hm
        exact oD _ this _
       .have:k≠k':=λe=>by subst e;rw[a1V hf]at zD;cases zD
        rw[oD _ this];exact zD
      .simp only;rw[noq hnx,cA hf, <- gP a2 (.inl rfl)];congr 1;cases x.dst<;>rfl
     .rw[hv]at ho;cases ho
   .rw[bM a1]at hw;refine⟨_,.inr ⟨gZ a6R,.inr ⟨hw,rfl⟩⟩,.inl ⟨hqx,d,ax,(QY.finish hqx a3).2 hx,?_⟩⟩;rw[noq hnx,gP a2 (.inl rfl)]
  .rw[(kS (G:=G) (st:=st) hs).2.2.1]at hqx;cases hqx
 ·
  have a6S:(isApp x||gS x)=true:=by simp[hsx]
  rcases h2 with⟨_,e,ay,hy,rfl⟩|⟨hs,_⟩
  .rcases h1 with⟨hq,_⟩|⟨_,⟨hw,out,ho,rfl⟩|⟨hw,rfl⟩⟩
   .rw[(kS (G:=G) (st:=st) (gZ a6S)).2.2.1]at hq;cases hq
   .cases ha:isApp x with
    |true=>
     obtain⟨⟨k,a1r⟩,_,gM,pP,a3v⟩:=a1d ha ho;have hy':QY P G ops y e ay st:=by have h3:=(QY.finish hqy a1).1 hy;rw[pP]at h3;exact h3.to hqy rfl (λz _=>(b4M z).symm) (λ_ _ _ _=>rfl) (λ_ _ _ h=>h) λhc=>by rw[hcy]at hc;cases hc
     refine⟨_,.inl ⟨hqy,e,ay,hy',rfl⟩,.inr ⟨gZ a6S,.inl ⟨by rw[bM a3];exact hw,⟨out.v,out.act,finish out.st y.dst e .no⟩,?_,?_⟩⟩⟩
     .rw[noq hny,a0t ha a3,ho];rfl
     .simp only;rw[noq hny,a1r,gP a2' (.inr ⟨k,rfl⟩)]
    |false=>
     have hnx:gS x=true:=by simpa[ha]using a6S
     obtain⟨k,hk,⟨cs,sS,hv⟩|hv⟩:=vE (P:=P) (G:=G) hnx
     .have hf:=fx hnx k hk;rw[hv]at ho;cases ho;have hy':QY P G ops y e ay st:=by
       have h3:=(QY.finish hqy a1).1 hy;simp only at h3;rw[cA hf]at h3;refine h3.to hqy rfl (λz _=>(a2p z).symm) (λz _ k' hm=>?_) (λhc=>by rw[hcy]at hc;cases hc) λhc=>by rw[hcy]at hc;cases hc
       rw[a2p]at hm;have:k≠k':=λe=>by subst e;rw[yI hf z]at hm;cases hm
       exact(oD _ this _).symm
      have hf2:dI k (finish st y.dst e .no)=true:=cV hf (hy'.free hqy hf);refine⟨_,.inl ⟨hqy,e,ay,hy',rfl⟩,.inr ⟨gZ a6S,.inl ⟨by rw[bM a3];exact hw,_,hv _,?_⟩⟩⟩;simp only;rw[noq hny,cA hf,cA hf2,gP a2 (.inl rfl)];cases y.dst<;>rfl
     .rw[hv]at ho;cases ho
   .have hy':=(QY.finish hqy a1).1 hy;refine⟨_,.inl ⟨hqy,e,ay,hy',rfl⟩,.inr ⟨gZ a6S,.inr ⟨by rw[bM a3];exact hw,?_⟩⟩⟩;rw[noq hny,gP a2' (.inl rfl)]
  .rw[(kS (G:=G) (st:=st) hs).2.2.1]at hqy;cases hqy
 ·
  have hss:rU y=true:=gZ (by simp[d2b]);have f2v:wK ops y=false:=c1v d2b;rcases h1 with⟨_,d,ax,hx,rfl⟩|⟨hs,_⟩
  .rcases h2 with⟨hq,_⟩|⟨_,⟨hw,out,ho,rfl⟩|⟨hw,rfl⟩⟩
   .rw[(kS (G:=G) (st:=st) hss).2.2.1]at hq;cases hq
   .rw[bM a1]at hw;obtain⟨k,hk,⟨cs,sS,hv⟩|hv⟩:=vE (P:=P) (G:=G) d2b
    .have hf:=fy d2b k hk;have hfd:=hx.free hqx hf;have hf1:dI k (finish st x.dst d (a9v ops x ax))=true:=cV hf hfd;rw[hv]at ho;cases ho;rw[cA hf1];refine⟨_,.inr ⟨hss,.inl ⟨hw,_,hv st,rfl⟩⟩,.inl ⟨hqx,d,ax,?_,?_⟩⟩
     .refine(QY.finish hqx a3).2 ?_;simp only;rw[cA hf];refine QY.to hx hqx rfl (λz _=>a2p z) (λz _ k' hm=>?_) (λ_ k' ob zD=>?_) (λ_ ks _ vB=>vB)
      .have:k≠k':=λe=>by subst e;rw[yI hf z]at hm;cases hm
       exact oD _ this _
      .have:k≠k':=λe=>by subst e;rw[a1V hf]at zD;cases zD
       rw[oD _ this];exact zD
     .simp only;rw[cA hf, <- a1c a2 a1 a3 (by rw[f2v,Bool.and_false]) hx.act (.inl rfl)];congr 1;cases x.dst<;>rfl
    .rw[hv]at ho;cases ho
   .rw[bM a1]at hw;refine⟨_,.inr ⟨hss,.inr ⟨hw,rfl⟩⟩,.inl ⟨hqx,d,ax,(QY.finish hqx a3).2 hx,?_⟩⟩;exact a1c a2 a1 a3 (by rw[f2v,Bool.and_false]) hx.act (.inl rfl)
  .rw[(kS (G:=G) (st:=st) hs).2.2.1]at hqx;cases hqx
 ·
  have hss:rU x=true:=gZ (by simp[d2c]);have f2w:wK ops x=false:=c1v d2c;rcases h2 with⟨_,e,ay,hy,rfl⟩|⟨hs,_⟩
  .rcases h1 with⟨hq,_⟩|⟨_,⟨hw,out,ho,rfl⟩|⟨hw,rfl⟩⟩
   .rw[(kS (G:=G) (st:=st) hss).2.2.1]at hq;cases hq
   .obtain⟨k,hk,⟨cs,sS,hv⟩|hv⟩:=vE (P:=P) (G:=G) d2c
    .have hf:=fx d2c k hk;rw[hv]at ho;cases ho;have hy':QY P G ops y e ay st:=by
      have h3:=(QY.finish hqy a1).1 hy;simp only at h3;rw[cA hf]at h3;refine QY.to h3 hqy rfl (λz _=>(a2p z).symm) (λz _ k' hm=>?_) (λhc=>by rw[hcy]at hc;cases hc) (λhc=>by rw[hcy]at hc;cases hc);rw[a2p]at hm;have:k≠k':=λe=>by subst e;rw[yI hf z]at hm;cases hm
      exact(oD _ this _).symm
     have hf2:dI k (finish st y.dst e (a9v ops y ay))=true:=cV hf (hy'.free hqy hf);refine⟨_,.inl ⟨hqy,e,ay,hy',rfl⟩,.inr ⟨hss,.inl ⟨by rw[bM a3];exact hw,_,hv _,?_⟩⟩⟩;simp only;rw[cA hf,cA hf2,a1c a2 a1 a3 (by rw[f2w,Bool.false_and]) (.inl rfl) hy'.act];cases y.dst<;>rfl
    .rw[hv]at ho;cases ho
   .have hy':=(QY.finish hqy a1).1 hy;refine⟨_,.inl ⟨hqy,e,ay,hy',rfl⟩,.inr ⟨hss,.inr ⟨by rw[bM a3];exact hw,?_⟩⟩⟩;exact a1c a2 a1 a3 (by rw[f2w,Bool.false_and]) (.inl rfl) hy'.act
  .rw[(kS (G:=G) (st:=st) hs).2.2.1]at hqy;cases hqy
 ·
  have a6S:(isApp x||gS x)=true:=by simpa using hsx
  have a6R:(isApp y||gS y)=true:=by simpa using hsy
  have nq:∀{o:Oper},(isApp o||gS o)=true-> ¬dW o.op=true:=λh=>by rw[(kS (G:=G) (st:=st) (gZ h)).2.2.1];simp
  have na:∀{o:Oper},gS o=true->isApp o=false:=λ{o} h=>by obtain⟨dst,op,ty,pos,after,guard⟩:=o;cases op<;>first|rfl|(simp[gS]at h)
  rcases h1 with⟨hq,_⟩|⟨_,⟨hwx,out,ho,rfl⟩|⟨hwx,rfl⟩⟩
  .exact absurd hq (nq a6S)
  ·
   rcases h2 with⟨hq,_⟩|⟨_,⟨hw,f6u,ho2,rfl⟩|⟨hw,rfl⟩⟩
   .exact absurd hq (nq a6R)
   .cases hx:gS x with
    |true=>
     obtain⟨k,hk,⟨cs,sS,hv⟩|hv⟩:=vE (P:=P) (G:=G) hx
     .have hf:=fx hx k hk;rw[hv]at ho;cases ho;rw[cA hf]at hw ho2;rw[bM a1]at hw;cases hy:gS y with
      |true=>
       obtain⟨k2,hk2,⟨cs2,e7H,hv2⟩|hv2⟩:=vE (P:=P) (G:=G) hy
       .have hf2:=fy hy k2 hk2;have gJ:k≠k2:=λe=>a2 k hk (e▸hk2);have hm:mentions k2 (.ptr k 0)=false:=by simp[mentions,gJ]
        have hm2:mentions k (.ptr k2 0)=false:=by simp[mentions,Ne.symm gJ]
        have g1:dI k2 (finish {st with H:=cF k cs st.H} x.dst (.ptr k 0) .no)=true:=cV (by have:=a7s gJ (sS k2) hf2;rwa[cA hf]at this) hm;have g2:dI k (finish {st with H:=cF k2 cs2 st.H} y.dst (.ptr k2 0) .no)=true:=cV (by have:=a7s (Ne.symm gJ) (e7H k) hf;rwa[cA hf2]at this) hm2;rw[hv2]at ho2;cases ho2;refine⟨_,.inr ⟨gZ a6R,.inl ⟨hw,_,hv2 st,rfl⟩⟩,.inr ⟨gZ a6S,.inl ⟨by simp only;rw[bM a3,cA hf2];exact hwx,_,hv _,?_⟩⟩⟩;simp only;rw[cA hf2,cA g1,cA g2];have e1:({finish {st with H:=cF k cs st.H} x.dst (.ptr k 0) .no with H:=cF k2 cs2 (finish {st with H:=cF k cs st.H} x.dst (.ptr k 0) .no).H}:St)=finish {st with H:=cF k2 cs2 (cF k cs st.H)} x.dst (.ptr k 0) .no:=by cases x.dst<;>rfl
        have e2:({finish {st with H:=cF k2 cs2 st.H} y.dst (.ptr k2 0) .no with H:=cF k cs (finish {st with H:=cF k2 cs2 st.H} y.dst (.ptr k2 0) .no).H}:St)=finish {st with H:=cF k cs (cF k2 cs2 st.H)} y.dst (.ptr k2 0) .no:=by cases y.dst<;>rfl
        rw[e1,e2,c5A gJ (a1V hf) (a1V hf2)];exact gP a2 (.inl rfl)
       .rw[hv2]at ho2;cases ho2
      |false=>
       have hay:isApp y=true:=by simpa[hy]using a6R
       rw[a0t hay a1,c5Z hay]at ho2;obtain⟨o1,ho1,rfl⟩:=g3p.1 ho2;obtain⟨o0,ho0,rfl⟩:=g3p.1 ho1;obtain⟨⟨e,a1r⟩,_,gM,pP,a3v⟩:=a1d hay ho0;have e7I:Eff P G ops y st (finish o0.st y.dst o0.v o0.act):=.inr ⟨gZ a6R,.inl ⟨hw,o0,ho0,rfl⟩⟩;have g2:dI k (finish o0.st y.dst o0.v o0.act)=true:=wZ e7I hf λh=>by rw[hy]at h;cases h
       refine⟨_,.inr ⟨gZ a6R,.inl ⟨hw,o0,ho0,rfl⟩⟩,.inr ⟨gZ a6S,.inl ⟨by rw[bM a3,pP];exact hwx,_,hv _,?_⟩⟩⟩;simp only;rw[cA g2,a1r,gP a2 (.inr ⟨e,rfl⟩),pP];cases y.dst<;>rfl
     .rw[hv]at ho;cases ho
    |false=>
     have hax:isApp x=true:=by simpa[hx]using a6S
     have hy:gS y=true:=by simpa[hx]using hnn
     obtain⟨⟨e,a1r⟩,⟨es,hvv⟩,gM,pP,a3v⟩:=a1d hax ho;obtain⟨k2,hk2,⟨cs2,e7H,hv2⟩|hv2⟩:=vE (P:=P) (G:=G) hy
     .have hf2:=fy hy k2 hk2;have e7I:Eff P G ops x st (finish out.st x.dst out.v out.act):=.inr ⟨gZ a6S,.inl ⟨hwx,out,ho,rfl⟩⟩;have g1:dI k2 (finish out.st x.dst out.v out.act)=true:=wZ e7I hf2 λh=>by rw[hx]at h;cases h
      rw[bM a1,pP]at hw;rw[hv2]at ho2;cases ho2;refine⟨_,.inr ⟨gZ a6R,.inl ⟨hw,_,hv2 st,rfl⟩⟩,.inr ⟨gZ a6S,.inl ⟨by simp only;rw[bM a3,cA hf2];exact hwx,⟨out.v,out.act,finish {out.st with H:=cF k2 cs2 out.st.H} y.dst (.ptr k2 0) .no⟩,?_,?_⟩⟩⟩
      .simp only;rw[cA hf2,a0t hax a3,c5Z hax,ho];simp only[Option.map_some,pP]
      .simp only;rw[cA g1,a1r,gP a2' (.inr ⟨e,rfl⟩),pP];congr 1;cases x.dst<;>rfl
     .rw[hv2]at ho2;cases ho2
   ·
    have pP:out.st.tmps.length=out.st.tmps.length:=rfl;have hwy:gC y ops st.tmps=some false:=by
     rw[bM a1]at hw;cases hx:gS x with
     |true=>
      obtain⟨k,hk,⟨cs,sS,hv⟩|hv⟩:=vE (P:=P) (G:=G) hx
      .rw[hv]at ho;cases ho;rw[cA (fx hx k hk)]at hw;exact hw
      .rw[hv]at ho;cases ho
     |false=>obtain⟨_,_,gM,pP,_⟩:=a1d (by simpa[hx]using a6S) ho;rw[pP]at hw;exact hw
    refine⟨_,.inr ⟨gZ a6R,.inr ⟨hwy,rfl⟩⟩,.inr ⟨gZ a6S,.inl ⟨by rw[bM a3];exact hwx,?_⟩⟩⟩;cases hx:gS x with
    |true=>
     obtain⟨k,hk,⟨cs,sS,hv⟩|hv⟩:=vE (P:=P) (G:=G) hx
     .have hf:=fx hx k hk;have g2:dI k (finish st y.dst (.cX []) .no)=true:=cV hf rfl;rw[hv]at ho;cases ho;refine⟨_,hv _,?_⟩;simp only;rw[cA hf,cA g2,gP a2 (.inl rfl)];cases y.dst<;>rfl
     .rw[hv]at ho;cases ho
    |false=>
     have hax:isApp x=true:=by simpa[hx]using a6S
     obtain⟨⟨e,a1r⟩,_,gM,pP,a3v⟩:=a1d hax ho;refine⟨⟨out.v,out.act,finish out.st y.dst (.cX []) .no⟩,by rw[a0t hax a3,ho];rfl,?_⟩;simp only;rw[a1r,gP a2' (.inr ⟨e,rfl⟩)]
  ·
   rcases h2 with⟨hq,_⟩|⟨_,⟨hw,f6u,ho2,rfl⟩|⟨hw,rfl⟩⟩
   .exact absurd hq (nq a6R)
   .rw[bM a1]at hw;cases hy:gS y with
    |true=>
     obtain⟨k2,hk2,⟨cs2,e7H,hv2⟩|hv2⟩:=vE (P:=P) (G:=G) hy
     .have hf2:=fy hy k2 hk2;have g1:dI k2 (finish st x.dst (.cX []) .no)=true:=cV hf2 rfl;rw[hv2]at ho2;cases ho2;refine⟨_,.inr ⟨gZ a6R,.inl ⟨hw,_,hv2 st,rfl⟩⟩,.inr ⟨gZ a6S,.inr ⟨by simp only;rw[bM a3,cA hf2];exact hwx,?_⟩⟩⟩;simp only;rw[cA hf2,cA g1, <- gP a2 (.inl rfl)];congr 1;cases x.dst<;>rfl
     .rw[hv2]at ho2;cases ho2
    |false=>
     have hay:isApp y=true:=by simpa[hy]using a6R
     rw[a0t hay a1]at ho2;obtain⟨o0,ho0,rfl⟩:=g3p.1 ho2;obtain⟨⟨e,a1r⟩,_,gM,pP,a3v⟩:=a1d hay ho0;refine⟨_,.inr ⟨gZ a6R,.inl ⟨hw,o0,ho0,rfl⟩⟩,.inr ⟨gZ a6S,.inr ⟨by rw[bM a3,pP];exact hwx,?_⟩⟩⟩;simp only;rw[a1r,gP a2 (.inr ⟨e,rfl⟩)]
   .rw[bM a1]at hw;refine⟨_,.inr ⟨gZ a6R,.inr ⟨hw,rfl⟩⟩,.inr ⟨gZ a6S,.inr ⟨by rw[bM a3];exact hwx,?_⟩⟩⟩;exact gP a2 (.inl rfl)
 ·
  obtain⟨hqx,_,_⟩:=qE (G:=G) (st:=st) hpx;obtain⟨hyd,_⟩:=b1L hsy;have hss:rU y=true:=by simp[rU,hsy]
  rcases h1 with⟨_,d,ax,hx,rfl⟩|⟨hs,_⟩
  .rw[noq hnx]at h2;rcases h2 with⟨hq,_⟩|⟨_,⟨hw,out,ho,rfl⟩|⟨hw,rfl⟩⟩
   .rw[(kS (G:=G) (st:=st) hss).2.2.1]at hq;cases hq
   .rw[bM a1]at hw;rw[c1u hsy a1]at ho;obtain⟨o0,ho0,rfl⟩:=g3p.1 ho;obtain⟨_,_,htm⟩:=d6A hsy ho0;refine⟨_,.inr ⟨hss,.inl ⟨hw,o0,ho0,rfl⟩⟩,.inl ⟨hqx,d,ax,?_,?_⟩⟩
    .rw[hyd];exact hx.pure hpx htm
    .rw[hyd,noq hnx];rfl
   .rw[bM a1]at hw;refine⟨_,.inr ⟨hss,.inr ⟨hw,rfl⟩⟩,.inl ⟨hqx,d,ax,?_,?_⟩⟩
    .rw[hyd];exact hx
    .rw[hyd,noq hnx];rfl
  .rw[(kS (G:=G) (st:=st) hs).2.2.1]at hqx;cases hqx
 ·
  obtain⟨hqy,_,_⟩:=qE (G:=G) (st:=st) hpy;obtain⟨hxd,_⟩:=b1L hsx;have hss:rU x=true:=by simp[rU,hsx]
  rcases h2 with⟨_,e,ay,hy,rfl⟩|⟨hs,_⟩
  .rcases h1 with⟨hq,_⟩|⟨_,⟨hw,out,ho,rfl⟩|⟨hw,rfl⟩⟩
   .rw[(kS (G:=G) (st:=st) hss).2.2.1]at hq;cases hq
   .obtain⟨_,_,htm⟩:=d6A hsx ho;rw[hxd]at hy;have hy':QY P G ops y e ay st:=QY.pure (st:=out.st) hy hpy htm.symm;refine⟨_,.inl ⟨hqy,e,ay,hy',rfl⟩,.inr ⟨hss,.inl ⟨by rw[bM a3];exact hw,⟨out.v,out.act,finish out.st y.dst e .no⟩,?_,?_⟩⟩⟩
    .rw[noq hny,c1u hsx a3,ho];rfl
    .rw[hxd,noq hny];rfl
   .rw[hxd]at hy;refine⟨_,.inl ⟨hqy,e,ay,hy,rfl⟩,.inr ⟨hss,.inr ⟨by rw[bM a3];exact hw,?_⟩⟩⟩;rw[hxd];rfl
  .rw[(kS (G:=G) (st:=st) hs).2.2.1]at hqy;cases hqy
def tD(ops:Array Oper)(listed:Array Bool)(st:St):Prop:=∀(j:Nat)(oj:Oper)(d:Tmp),ops[j]? =some oj->gS oj=true->listed.getD j true=false->oj.dst=some d->dI d st=true
def sC(ops:Array Oper):Prop:=∀(i j:Nat)(oi oj:Oper)(d:Tmp),ops[i]? =some oi->ops[j]? =some oj->gS oi=true->gS oj=true->oi.dst=some d->oj.dst=some d->i=j
theorem vW(h:(listed.setIfInBounds i true).getD j true=false):i≠j/\listed.getD j true=false:=by
 by_cases hij:i=j
 .subst hij;exfalso;rw[g3s]at h;by_cases hl:i<listed.size
  .simp[hl]at h
  .rw[Array.getElem?_eq_none (by simpa using hl)]at h;cases h
 .exact⟨hij,by rwa[getD_set_ne true hij]at h⟩
theorem tD.step(hA:sC ops)(hi:ops[i]? =some oi)(hI:tD ops listed st)(hk:∀k,dI k st=true->(gS oi=true->oi.dst≠some k)->dI k s=true):tD ops (listed.setIfInBounds i true) s:=by intro j oj d hj hn hun hd;obtain⟨hij,f6w⟩:=vW hun;exact hk d (hI j oj d hj hn f6w hd) λhni he=>hij (hA i j oi oj d hi hj hni hn he hd)
theorem c9S{Q:St->Prop}(hA:sC ops)(hi:ops[i]? =some oi)(hsi:(dW oi.op=true/\pQ ops oi=false)\/rU oi=true):
  ∀(fuel:Nat)(listed:Array Bool)(st s:St),gR ops listed->
   (∀j oj,ops[j]? =some oj->j≠i->listed.getD j true=false->kG ops ops.size j i=false->oi.apart ops oj=true/\tB ops oi oj=true)->
   i∈Region.ready .any ops listed->tD ops listed st->Eff P G ops oi st s->
   c0h P G ops Q fuel (listed.setIfInBounds i true) s->c0h P G ops Q (fuel+1) listed st:=by
 intro fuel
 induction fuel with
 |zero=>
  intro listed st s _ _ hr _ hy H;refine⟨λh=>(by rw[h]at hr;cases hr),λj hj=>?_⟩;by_cases hji:j=i
  .subst hji;rw[hi];exact(eR hsi).2 ⟨s,hy,H⟩
  .have:=ready_mono hj hji;rw[H.1]at this;cases this
 |succ fuel ih=>
  intro listed st s qC a1e hr hI hy H;refine⟨λh=>(by rw[h]at hr;cases hr),λj hj=>?_⟩;by_cases hji:j=i
  .subst hji;rw[hi];exact(eR hsi).2 ⟨s,hy,H⟩
  .have h1:=H.2 j (ready_mono hj hji);obtain⟨a0u,oj,hoj,eQ⟩:=mem_ready.1 hj;rw[hoj]at h1|-;simp only at h1|-;obtain⟨a4m,oi',c3k,b1N⟩:=mem_ready.1 hr;have a6T:kG ops ops.size j i=false:=eC qC a4m _ _ λo ho=>by rw[hoj]at ho;cases ho;exact eQ
   obtain⟨hap,hpo⟩:=a1e j oj hoj hji a0u a6T;have hsj:(dW oj.op=true/\pQ ops oj=false)\/rU oj=true:=by
    by_cases hs:rU oj=true
    .exact .inr hs
    .refine .inl ⟨?_,?_⟩
     .unfold tB at hpo;simp only[rU,g3C,g3q,g3M]at hpo hs;rcases hpo with((((((h|h)|h)|h)|h)|h)|h)|h
      .exact h.1.2
      .exact absurd (.inl (.inl h.1.2)) hs
      .exact h.1.1.2
      .exact absurd (.inl (.inr h.2)) hs
      .exact h.1.2
      .exact absurd (.inl h.1.2) hs
      .exact absurd (.inr h.2) hs
      .exact(qE (G:=G) (st:=st) h.1.2).1
     .cases hx:pQ ops oj with
      |false=>rfl
      |true=>
       have aG:i<ops.size:=(g3z.1 hi).1;rcases xX hx hoj aG (λe=>hji e.symm)with h'|h'
       .have:=eC qC a0u ops.size i λo ho=>by rw[c3k]at ho;cases ho;exact b1N
        rw[h']at this;cases this
       .rw[a6T]at h';cases h'
   obtain⟨s12,hu,hk⟩:=(eR hsj).1 h1;obtain⟨s2,e1,e2⟩:=b1M hap hpo (λhn d hd=>hI i oi d hi hn a4m hd) (λhn d hd=>hI j oj d hoj hn a0u hd) hy hu;refine(eR hsj).2 ⟨s2,e1,?_⟩;refine ih (listed.setIfInBounds j true) s2 s12 (qC.set hj) (λk ok hk' hki hun vB=>?_) (ready_mono hr (Ne.symm hji)) (hI.step hA hoj λk hf hn=>wZ e1 hf hn) e2 ?_
   .exact a1e k ok hk' hki (vW hun).2 vB
   .rw[Array.setIfInBounds_comm _ _ hji];exact hk
theorem c1w(gJ:gY all≠[])(ht:d3x all o=true)(h:qO P G true all o K st):qO P G true all o (λs=>K s/\∀k,dI k st=true->(gS o=true->o.dst≠some k)->dI k s=true) st:=by
 unfold d3x at ht;have hsq:uK true all o=true:=by
  cases hk:gY all with
  |nil=>exact absurd hk gJ
  |cons k r=>simp[uK,hk]
 by_cases hs:rU o=true
 .obtain⟨s,h1,h2⟩:=(eR (.inr hs)).1 h;exact(eR (.inr hs)).2 ⟨s,h1,h2,λk hf hn=>wZ h1 hf hn⟩
 .unfold qO at h|-;split
  .rename_i hw;rw[hw]at h;simp only at h;split
   .rename_i f ds hc;rw[hc]at h;rcases h with⟨r,own,h1,h3,h2⟩|⟨h0,s',h1,h2⟩
    .exact .inl ⟨r,own,h1,λ_=>h3 (by trivial),h2,λk hf _=>cV hf (a1U (h3 (by trivial)))⟩
    .rw[hsq]at h0;cases h0
   .rename_i hc;rw[hc]at h;simp only at h;split
    .rename_i f g3o hch;rw[hch]at h;simp only[a3H]at h|-;rw[hsq]at h|-;simp only[if_true]at h|-;obtain⟨d,ks,h1,h2⟩:=h;exact⟨d,ks,h1,h2,λk hf _=>cV hf (a1U h1.2.2.2.2)⟩
    .rename_i hch;rw[hch]at h;simp only at h;split
     .rename_i out ho;rw[ho]at h;refine⟨h,λk hf _=>?_⟩;have c1x:dI k out.st=true/\mentions k out.v=false:=by
       simp only[rU,g3C]at ht hs;rcases ht with((hq|ha)|hn)|pP
       .rw[c5S hq ho];exact⟨hf,c5Y hq hf ho⟩
       .exact absurd (.inl (.inl ha)) hs
       .exact absurd (.inl (.inr hn)) hs
       .split at pP
        .rename_i qD;exact b6Z qD hf ho
        .cases pP
      exact cV c1x.1 c1x.2
     .rename_i ho;rw[ho]at h;exact h
  .rename_i hw;rw[hw]at h;exact⟨h,λk hf _=>cV hf rfl⟩
  .rename_i hw;rw[hw]at h;exact h
theorem c6b{ops:Array Oper}{Q:St->Prop}(hA:sC ops)(hT:gY ops=[]\/∀o∈ops.toList,d3x ops o=true):∀(l:List Oper)(k:Nat)(listed:Array Bool)(st:St),(∀j,l[j]? =ops[k+j]?)->gR ops listed->tD ops listed st->
  lexFrom ops l.length k listed=true->vU P G true ops l st Q->c0h P G ops Q l.length listed st
 |[],_,_,_,_,_,_,hB,h=>⟨by simpa[lexFrom]using hB,h⟩
 |o::l,k,listed,st,hl,qC,hI,hB,h=>by
  have h0:ops[k]? =some o:=by simpa using (hl 0).symm
  simp only[List.length_cons,lexFrom,g3q,h0]at hB;obtain⟨⟨hr,hf⟩,hB'⟩:=hB;have hrk:k∈Region.ready .any ops listed:=by simpa using hr
  have tN:∀s,tD ops (listed.setIfInBounds k true) s->vU P G true ops l s Q->c0h P G ops Q l.length (listed.setIfInBounds k true) s:=λs hs h=>c6b hA hT l (k+1) _ s (λj=>by have:=hl (j+1);simpa[Nat.add_assoc,Nat.add_comm 1 j]using this) (qC.set hrk) hs hB' h
  have b6Q:∀j oj,ops[j]? =some oj->j≠k->listed.getD j true=false->kG ops ops.size j k=false->o.apart ops oj=true/\tB ops o oj=true:=by intro j oj hj gJ hun vB;rw[g3t]at hf;have h1:=hf j (List.mem_range.2 (g3z.1 hj).1);simp only[hj,g3C,beq_iff_eq,gJ,false_or,hun,g3K,vB,g3q]at h1;exact h1
  have only:(∀j oj,ops[j]? =some oj->j≠k->listed.getD j true=false->kG ops ops.size j k=false->False)->c0h P G ops Q (l.length+1) listed st:=λvB=>by
   refine⟨λh'=>(by rw[h']at hrk;cases hrk),λj hj=>?_⟩;by_cases hjk:j=k
   .subst hjk;rw[h0];have c1x:qO P G true ops o (λs=>vU P G true ops l s Q/\tD ops (listed.setIfInBounds j true) s) st:=by
     by_cases hT0:gY ops=[]
     .refine jQ (λs hs=>⟨hs,λi oi d hi hn _ hd=>?_⟩) h;have:d∈gY ops:=g3V.2 ⟨oi,by rw[g4o];exact Array.mem_of_getElem? hi,by rw[if_pos hn];exact hd⟩;rw[hT0]at this;cases this
     .have hT:=hT.resolve_left hT0;refine jQ (λs hs=>⟨hs.1,hI.step hA h0 hs.2⟩) (c1w hT0 (hT o (by rw[g4o];exact Array.mem_of_getElem? h0)) h)
    exact jQ (λs hs=>tN s hs.2 hs.1) c1x
   .obtain⟨a0u,oj,hoj,eQ⟩:=mem_ready.1 hj;have a6T:kG ops ops.size j k=false:=eC qC (mem_ready.1 hrk).1 _ _ λo' xS=>by rw[hoj]at xS;cases xS;exact eQ
    exact(vB j oj hoj hjk a0u a6T).elim
  by_cases hs:(dW o.op=true/\pQ ops o=false)\/rU o=true
  .obtain⟨s,hd,hk⟩:=(eR hs).1 h;exact c9S hA h0 hs l.length listed st s qC (λj oj hj gJ hun vB=>b6Q j oj hj gJ hun vB) hrk hI hd (tN _ (hI.step hA h0 λk hf hn=>wZ hd hf hn) hk)
  .refine only λj oj hj gJ hun vB=>?_;obtain⟨_,hpo⟩:=b6Q j oj hj gJ hun vB;cases hal:pQ ops o with
   |true=>
    obtain⟨_,ok,pG,d6C⟩:=mem_ready.1 hrk;have d6D:kG ops ops.size k j=false:=eC qC hun _ _ λo' xS=>by rw[pG]at xS;cases xS;exact d6C
    rcases xX hal h0 (g3z.1 hj).1 gJ with h'|h'
    .rw[vB]at h';cases h'
    .rw[d6D]at h';cases h'
   |false=>
    unfold tB at hpo;simp only[rU,g3C,g3q,g3M]at hpo hs;rcases hpo with((((((h'|h')|h')|h')|h')|h')|h')|h'
    .exact hs (.inl ⟨h'.1.1,hal⟩)
    .exact hs (.inl ⟨h'.1.1,hal⟩)
    .exact hs (.inr (.inl (.inl h'.1.1.1)))
    .exact hs (.inl ⟨h'.1,hal⟩)
    .exact hs (.inr (.inl (.inr h'.1.1)))
    .exact hs (.inr (.inl h'.1.1))
    .exact hs (.inl ⟨(qE (G:=G) (st:=st) h'.1.1).1,hal⟩)
    .exact hs (.inr (.inr h'.1.1))
theorem Rel.drew(hr:Rel P G base R μ st a w):Rel P G base R μ st a w.drew/\Step base R w R w.drew:=
 have hs:Step base R w R w.drew:=⟨(a2D.refl _ _).drew,λ_ _ h=>h,λ_ _ h h'=>absurd h h',λ_ _ _=>rfl⟩
 ⟨hr.step hs (λ_ _=>rfl) (λ_ _ h h'=>absurd h h') hr.sB,hs⟩
theorem b7a{α β:Type}{f:α->Option β}:∀{l:List α},(l.filterMap f).Nodup->∀(i j:Nat){x y:α}{d:β},l[i]? =some x->l[j]? =some y->f x=some d->f y=some d->i=j
 |z::r,hn,i,j,x,y,d,hi,hj,hx,hy=>by
  have tl:(r.filterMap f).Nodup:=by
   rw[List.filterMap_cons]at hn;split at hn
   .exact hn
   .exact(List.nodup_cons.1 hn).2
  have no:∀{k:Nat}{w:α},f z=some d->r[k]? =some w->f w=some d->False:=λhz hk hw=>by rw[List.filterMap_cons,hz]at hn;exact(List.nodup_cons.1 hn).1 (g3V.2 ⟨_,g3v hk,hw⟩)
  cases i with
  |zero=>
   simp at hi;subst hi;cases j with
   |zero=>rfl
   |succ j=>exact(no hx (by simpa using hj) hy).elim
  |succ i=>
   cases j with
   |zero=>simp at hj;subst hj;exact(no hy (by simpa using hi) hx).elim
   |succ j=>rw[b7a tl i j (by simpa using hi) (by simpa using hj) hx hy]
theorem c0j{id:Nat}{Q:Exit->St->Prop}(hm:P.follows .mixedOrders=true)(hB:d6x ops=true)(hF:b3C ops st=true)(h:vU P G true ops ops.toList st λs=>Q .normal s):SW P G (.region id ops true) st Q:=by
 intro base R μ a w hr;obtain⟨jG,tL⟩:=hr.drew;unfold d6x at hB;rw[g3q]at hB;obtain⟨hN,hB⟩:=hB;rw[g3C,List.isEmpty_iff,g3q,g3t,g4e]at hN;have mem:∀{i oi d},ops[i]? =some oi->gS oi=true->oi.dst=some d->d∈gY ops:=λhi hn hd=>g3V.2 ⟨_,by rw[g4o];exact Array.mem_of_getElem? hi,by rw[if_pos hn];exact hd⟩;have hA:sC ops:=λi j oi oj d hi hj hni hnj hdi hdj=>by
  rcases hN with hN|⟨_,hN⟩
  .have:=mem hi hni hdi;rw[hN]at this;cases this
  .exact b7a (l:=ops.toList) (f:=λo=>if gS o then o.dst else none) hN i j (by simpa using hi) (by simpa using hj) (by rw[if_pos hni];exact hdi) (by rw[if_pos hnj];exact hdj)
 have hI:tD ops (Array.replicate ops.size false) st:=λj oj d hj hn _ hd=>g3t.1 hF d (mem hj hn hd);have h1:=c6b hA (hN.imp (λh=>h) (λh=>h.1)) ops.toList 0 (Array.replicate ops.size false) st (by simp) (λk hk=>by
  rcases Nat.lt_or_ge k ops.size with h'|h'
  .simp[h']at hk
  .simp[Nat.not_lt.2 h']at hk) hI (by simpa using hB) h
 rw[show ops.toList.length=ops.size by simp]at h1;exact wp_region_any hm (b6s ops.size _ st h1 base R μ a w.drew jG λs a' w' R' μ' q1 q2 q3=>⟨s,R',μ',q1,q2,tL.trans q3⟩)
theorem a6z:∀(c:Code)(st:St)(Q:Exit->St->Prop),VW P G c st Q->SW P G c st Q
 |.skip,st,Q,h=>λbase R μ a w hr=>wp_skip ⟨st,R,μ,h,hr,.refl _ _ _⟩
 |.region id ops draw,st,Q,h=>by
  unfold VW at h;cases draw with
  |true=>exact c0j (h.1 rfl).1 (h.1 rfl).2.1 (h.1 rfl).2.2 h.2
  |false=>
   replace h:=h.2
   exact λbase R μ a w hr=>wp_region_list (c3f ops _ ops.toList st _ h base R μ a w hr λs a' w' R' μ' q1 q2 q3=>⟨s,R',μ',q1,q2,q3⟩)
 |.seq x y,st,Q,h=>λbase R μ a w hr=>wp_seq (wp_mono (a6z x st _ h base R μ a w hr) λe a1 w1 ⟨s,R1,μ1,q1,q2,q3⟩=>by
   cases e with
   |normal=>exact wp_mono (a6z y s Q q1 base R1 μ1 a1 w1 q2) λe2 a2 w2 ⟨s2,R2,μ2,p1,p2,p3⟩=>⟨s2,R2,μ2,p1,p2,q3.trans p3⟩
   |_=>exact⟨s,R1,μ1,q1,q2,q3⟩)
 |.cond c x y,st,Q,h=>λbase R μ a w hr=>by
  unfold VW at h;split at h
  .rename_i t hc;refine wp_cond (hr.a2F hc) ?_;cases t
   .exact a6z y st Q h base R μ a w hr
   .exact a6z x st Q h base R μ a w hr
  .rename_i hc;obtain⟨t,ht⟩:=hr.d1U hc;refine wp_cond ht ?_;cases t
   .exact a6z y st Q h.2 base R μ a w hr
   .exact a6z x st Q h.1 base R μ a w hr
  .cases h
 |.block id c,st,Q,h=>λbase R μ a w hr=>wp_block (wp_mono (a6z c st _ h base R μ a w hr) λe a1 w1 ⟨s,R1,μ1,q1,q2,q3⟩=>by
   cases e with
   |exit id'=>
    simp only[Exit.inBlock];simp only at q1;by_cases hid:id'=id
    .rw[if_pos hid]at q1|-;exact⟨s,R1,μ1,q1,q2,q3⟩
    .rw[if_neg hid]at q1|-;exact⟨s,R1,μ1,q1,q2,q3⟩
   |_=>exact⟨s,R1,μ1,q1,q2,q3⟩)
 |.loop c,st,Q,h=>h
 |.exit id,st,Q,h=>λbase R μ a w hr=>wp_exit ⟨st,R,μ,h,hr,.refl _ _ _⟩
 |.ret,st,Q,h=>λbase R μ a w hr=>wp_ret ⟨st,R,μ,h,hr,.refl _ _ _⟩
 |.rangeFunc ..,_,_,h=>by simp[VW]at h
 |.scope c,st,Q,h=>λbase R μ a w hr=>wp_scope_straight (wp_mono (a6z c st _ h base R μ a w hr) λe a1 w1 ⟨s,R1,μ1,q1,q2,q3⟩=>by
   cases e with
   |goto l=>exact q1.elim
   |_=>exact⟨s,R1,μ1,q1,q2,q3⟩)
 |.label l,st,Q,h=>λbase R μ a w hr=>wp_label ⟨st,R,μ,h,hr,.refl _ _ _⟩
 |.goto ..,_,_,h=>by simp[VW]at h
end
end Go.VM
end
