/- Lemmas. No condition. -/
import Derived.Test.YtmfbjecjccipfaaGreatDoorOva
import Derived.Deep.LoopGhost
import Derived.Orders
import Derived.Scope
set_option linter.unusedVariables false
set_option linter.unusedSimpArgs false
set_option linter.unusedSectionVars false
set_option maxRecDepth 100000
set_option maxHeartbeats 64000000
section
namespace Go.VM
open Go Go.RowKit
section
variable {P:Program} {G:GT} {st:St} {out:Out}
variable {base:dU} {R R':Nat->Nat->Prop} {μ:Nat->Nat} {a:Act} {w w':World}
variable{ts:Array TypeId}{x y:Operand}{o:Oper}
theorem e1c(ho:o.op=.call {callee:=.builtin .max,args:=#[x,y],argTypes:=ts})(h:d2E G x y st=some out):wM P G o st out:=by
 unfold d2E at h;split at h
 .rename_i k a k' b hx hy;simp only[g3f]at h;subst h;refine bR λbase R μ a w hr=>⟨_,?_,.d _ _ (.int _ _),trivial⟩;simp[execOp,ho,resolve,invoke,builtin,Builtin.max_,Builtin.max2,hr.yL hx,hr.yL hy]
 .cases h
theorem e1d(ho:o.op=.call {callee:=.builtin .min,args:=#[x,y],argTypes:=ts})(h:d2F G x y st=some out):wM P G o st out:=by
 unfold d2F at h;split at h
 .rename_i k a k' b hx hy;simp only[g3f]at h;subst h;refine bR λbase R μ a w hr=>⟨_,?_,.d _ _ (.int _ _),trivial⟩;simp[execOp,ho,resolve,invoke,builtin,Builtin.min_,Builtin.min2,hr.yL hx,hr.yL hy]
 .cases h
theorem c5j{b:Builtin}{args:Array Operand}(ho:o.op=.call {callee:=.builtin b,args:=args,argTypes:=ts})(h:uU P G b args.toList ts.toList st=some out):wM P G o st out:=by
 obtain⟨args⟩:=args;obtain⟨ts⟩:=ts;simp only at h;unfold uU at h;split at h
 .exact e0X ho h
 .exact c8Z ho h
 .exact e1c ho h
 .exact e1d ho h
 .cases h
theorem c2p{fn:Fn}{first captured:Array Operand}(ho:o.op=.makeFunc fn first captured)(h:a8k G fn first captured st=some out):wM P G o st out:=by
 unfold a8k at h;split at h
 .rename_i f;split at h
  .rename_i hf;simp only[g3f]at h;subst h;have hf':first=#[]:=by simpa using hf
   refine bR λbase R μ a w hr=>⟨.func (.func f) #[] (captured.map a.eval),by simp[execOp,ho,Instr.makeFunc,hf'],?_,trivial⟩;split
   .rename_i hc;have zM:captured=#[]:=by simpa using hc
    subst zM;rw[show Array.map a.eval #[]=#[] by simp];exact .fn f
   .refine .clo f _ _ (by simp) λi c hi=>?_;rw[g3j]at hi;obtain⟨x,hx,rfl⟩:=g2Y.1 hi;have:(captured.map a.eval).getD i Go.undef=a.eval x:=by
     have hx':captured[i]? =some x:=by simpa using hx
     simp[g3b,hx']
    rw[this];exact hr.eval x
  .cases h
 .cases h
theorem e7i(h:pB P G o st=some out):wM P G o st out:=by
 unfold pB at h;split at h
 .exact c4U (.inl ‹_›) h
 .exact c4U (.inr ‹_›) h
 .exact d5t ‹_› h
 .exact c0v ‹_› h
 .exact e1a ‹_› h
 .exact c0t ‹_› h
 .exact b6k ‹_› h
 .exact c4V ‹_› h
 .exact a8m ‹_› h
 .exact c2l ‹_› h
 .exact d5y ‹_› h
 .exact e6X ‹_› h
 .exact d5A ‹_› h
 .exact c2p ‹_› h
 .exact c4W ‹_› h
 .exact d2H ‹_› h
 .exact d2I ‹_› h
 .exact b9p ‹_› h
 .exact b9q ‹_› h
 .exact d2L ‹_› h
 .exact d2P ‹_› h
 .exact d5G ‹_› h
 .exact c5j ‹_› h
 .cases h
end
section
variable (P:Program) (G:GT)
def a6Q:Option TypeId->OA
 |some e=>.fresh e
 |none=>.no
def Enters(f:FuncId):Prop:=∃fn,P.funcs[f]? =some fn/\fn.body.isNone=false/\(fn.name== "runtime.NumGoroutine")=false
def dW:Op->Bool
 |.move _|.assign _|.pick _ _ _|.build _ _|.buildSlice _ _ _|.load _ _|.nilCheck _|.binOp _ _ _ _ _|.unOp _ _ _|.convert _ _ _|.extract _ _|.field _ _ _|.index _ _ _|.indexAddr _ _ _|.fieldAddr _ _ _|.slice _ _ _ _ _=>true
 |.call {callee:=.value _, .. }=>true
 |.call {callee:=.builtin .len, .. }=>true
 |.call {callee:=.builtin .max, .. }=>true
 |.call {callee:=.builtin .min, .. }=>true
 |_=>false
def a3c:List Oper->List Tmp
 |[]=>[]
 |o::r=>match o.op with
  |.call {callee:=.builtin .append,args, .. }=>match args.toList with
   |.tmp i::_=>i::a3c r
   |_=>a3c r
  |_=>a3c r
def b5L:List Oper->List Tmp
 |[]=>[]
 |o::r=>match o.op,o.dst with
  |.call {callee:=.builtin .append, .. },some i=>i::b5L r
  |_,_=>b5L r
def wG(all:Array Oper)(o:Oper):Bool:=
 match o.guard,o.op,o.dst with
 |none,.move (.tmp j),some i=>j !=i&&(a3c all.toList).contains i
 |none,.assign (.tmp j),some i=>j !=i&&(b5L all.toList).contains j
 |none,.load _ (.tmp _),some i=>(a3c all.toList).contains i
 |none,.call {callee:=.value _, .. },some i=>(a3c all.toList).contains i
 |none,.buildSlice _ _ _,some i=>(a3c all.toList).contains i
 |_,_,_=>false
def a8W(all:Array Oper)(o:Oper)(act:OA):OA:=if wG all o then act else .no
def b1q(q:Bool)(all:Array Oper)(o:Oper)(_:DV)(act:OA):OA:=if q&&dW o.op then a8W all o act else act
def oR(f:FuncId)(g2X:List DV)(ls:List (Option Loc))(st:St)(dst:Option Tmp)(s':St):Prop:=
 ∀(base:dU)(R:Nat->Nat->Prop)(μ:Nat->Nat)(a:Act)(w:World)(args:Array Value),Rel P G base R μ st a w->args.size=g2X.length->(∀(i:Nat)(d:DV),g2X[i]? =some d->TV R μ w (args.getD i undef) d)->
  (∀(i:Nat)(l:Loc),ls[i]? =some (some l)->∀u,cX a w μ l=some u->u=args.getD i undef)->
  Calls P f args w λe w'=>∃v R' μ',e=.returned v/\Rel P G base R' μ' s' (a.put dst v) w'/\Step base R w R' w'
def rowsOf:List Oper->Nat->List Nat->List Nat
 |[],_,rows=>rows
 |o::r,n,rows=>Nat.rec (rowsOf r (n+1) (0::rows)) (λm _=>rowsOf r (n+1) (Nat.succ m::rows)) (o.after.toList.foldl (λacc e=>if Region.binds .any e=true/\e.on<n then acc |||((1 <<<e.on) |||rows.getD (n-1-e.on) 0) else acc) 0)
def kE(ops:Array Oper)(_ j i:Nat):Bool:=decide (j<ops.size)&&((rowsOf ops.toList 0 []).getD (ops.size-1-j) 0).testBit i
def pH(all:Array Oper)(o:Oper):Bool:=(List.range all.size).all λk=>match all[k]? with
 |some o'=>o'.dst !=o.dst||(List.range all.size).all λj=>j==k||kE all all.size j k||kE all all.size k j
 |none=>true
def d5N(ks:List Nat):Loc->Bool
 |.c k _=> !ks.contains k
 |.t _=>true
def oM(ks:List Nat)(own:List (TypeId×List Loc)):Bool:=own.all λc=>c.2.all (d5N ks)
def qK:DV->Bool
 |.ptr _ _=>false
 |.mp _=>false
 |.it _=>false
 |.clo _ _=>false
 |.ag _=>false
 |_=>true
def RO(f:FuncId)(g2X:List DV)(ks:List Nat)(H:List (Nat×bH))(d:DV):Prop:=
 ∀st:St,(∀k∈ks,getKey k st.H=getKey k H)->oM ks st.own=true->∀dst ls,oR P G f g2X ls st dst (finish st dst d .no)
def a3d(ro:Bool)(f:FuncId)(g2X:List DV)(ls:List (Option Loc))(dst:Option Tmp)(st:St)(K:St->Prop):Prop:=
 if ro=true then ∃d ks,(Enters P f/\RO P G f g2X ks st.H d/\oM ks st.own=true/\(ks.all λk=>(getKey k st.H).isSome)=true/\qK d=true)/\K (finish st dst d .no)
 else ∃s',(Enters P f/\oR P G f g2X ls st dst s')/\K s'
def gP(o:Oper):Bool:=match o.op,o.dst with
 |.alloc _,some _=>true
 |_,_=>false
def gW(ops:Array Oper):List Nat:=ops.toList.filterMap λo=>if gP o then o.dst else none
def uD(q:Bool)(all:Array Oper)(o:Oper):Bool:=q&&(!pH all o|| !(gW all).isEmpty)
def qN(q:Bool)(all:Array Oper)(o:Oper)(K:St->Prop)(st:St):Prop:=
 match gB o all st.tmps with
 |some true=>
  match kT G o st with
  |some (f,ds)=>(∃r own,(Enters P f/\CS P G f ds r own)/\(q=true->qK r=true)/\K (finish st o.dst r (if q&& !wG all o then .no else a6Q own)))\/
   (uD q all o=false/\∃s',(Enters P f/\oR P G f (ds.map .d) (oF o) st o.dst s')/\K s')
  |none=>
   match dY G o st with
   |some (f,g2X)=>a3d P G (uD q all o) f g2X (oF o) o.dst st K
   |none=>
    match pB P G o st with
    |some out=>K (finish out.st o.dst out.v (b1q q all o out.v out.act))
    |none=>False
 |some false=>K (finish st o.dst (.cY []) .no)
 |none=>False
def wN(q:Bool)(all:Array Oper):List Oper->St->(St->Prop)->Prop
 |[],st,K=>K st
 |o::rest,st,K=>qN P G q all o (λs=>wN q all rest s K) st
def a5i(o:Oper):Bool:=match o.op with
 |.call {callee:=.value _, .. }=>true
 |_=>false
def isApp(o:Oper):Bool:=match o.op with
 |.call {callee:=.builtin .append, .. }=>true
 |_=>false
def b5i(o:Oper):Bool:=match o.op,o.dst with
 |.store _ _ _,none=>true
 |_,_=>false
def b0e:Op->Bool
 |.move _|.assign _|.pick _ _ _|.nilCheck _|.binOp _ _ _ _ _|.unOp _ _ _|.convert _ _ _|.extract _ _|.field _ _ _|.index _ _ _|.indexAddr _ _ _|.fieldAddr _ _ _|.slice _ _ _ _ _=>true
 |_=>false
def rR(o:Oper):Bool:=isApp o||gP o||b5i o
def d2T(all:Array Oper)(o:Oper):Bool:=(dW o.op||isApp o||gP o||(match o.op with
 |.store _ _ _=>true
 |_=>false))
def sV(all:Array Oper)(x y:Oper):Bool:=(dW x.op&&dW y.op&& !(wG all x&&wG all y))||(dW x.op&&isApp y&& !wG all x)||(isApp x&&dW y.op&& !wG all y&& !a5i y)||(dW x.op&&gP y)||(gP x&&dW y.op&& !a5i y)||((isApp x||gP x)&&(isApp y||gP y)&&(gP x||gP y))||(b0e x.op&& !wG all x&&b5i y)||(b5i x&&b0e y.op&& !wG all y)
def vU(k:Nat):bH->Bool
 |.cells cs=>cs.all λc=> !mentions k c
 |_=>true
def dG(k:Nat)(st:St):Bool:=(st.tmps.all λv=> !mentions k v)&&(st.H.all λp=>p.1 !=k&&vU k p.2)&&(st.own.all λc=>c.2.all λl=> !l.a0G k)
def b3g(ops:Array Oper)(st:St):Bool:=(gW ops).all λk=>dG k st
def lexFrom(ops:Array Oper):Nat->Nat->Array Bool->Bool
 |0,_,listed=>(Region.ready .any ops listed).isEmpty
 |fuel+1,k,listed=>(Region.ready .any ops listed).contains k&&
  (match ops[k]? with
  |none=>false
  |some oi=>
   (List.range ops.size).all λj=>j==k||listed.getD j true||kE ops ops.size j k||(match ops[j]? with
    |some oj=>oi.apart ops oj&&sV ops oi oj
    |none=>true))&&
  lexFrom ops fuel (k+1) (listed.setIfInBounds k true)
def d5O(ops:Array Oper):Bool:=((gW ops).isEmpty||(ops.toList.all (d2T ops)&&decide ((gW ops).Nodup)))&&lexFrom ops ops.size 0 (Array.replicate ops.size false)
def VW:Code->St->(Exit->St->Prop)->Prop
 |.skip,st,Q=>Q .normal st
 |.region _ ops draw,st,Q=>(draw=true->P.follows .mixedOrders=true/\d5O ops=true/\b3g ops st=true)/\wN P G draw ops ops.toList st λs=>Q .normal s
 |.seq x y,st,Q=>VW x st λe s=>match e with
  |.normal=>VW y s Q
  |e=>Q e s
 |.cond c x y,st,Q=>
  match st.eval G c with
  |.d (.bool t)=>if t then VW x st Q else VW y st Q
  |.rQ=>VW x st Q/\VW y st Q
  |_=>False
 |.block id c,st,Q=>VW c st λe s=>match e with
  |.exit id'=>if id'=id then Q .normal s else Q (.exit id') s
  |e=>Q e s
 |.loop c,st,Q=>SW P G (.loop c) st Q
 |.exit id,st,Q=>Q (.exit id) st
 |.ret,st,Q=>Q .ret st
 |.label _,st,Q=>Q .normal st
 |.scope c,st,Q=>VW c st λe s=>match e with
  |.goto _=>False
  |e=>Q e s
 |_,_,_=>False
end
section
variable {P:Program} {G:GT} {st:St} {out:Out}
variable {base:dU} {R R':Nat->Nat->Prop} {μ:Nat->Nat} {a:Act} {w w':World}
theorem SW.mono{c:Code}{Q Q':Exit->St->Prop}(hq:∀e s,Q e s->Q' e s)(h:SW P G c st Q):SW P G c st Q':=λbase R μ a w hr=>wp_mono (h base R μ a w hr) λ_ _ _ ⟨st',R',μ',q,r,s⟩=>⟨st',R',μ',hq _ _ q,r,s⟩
variable{all ops:Array Oper}{o oi y:Oper}
theorem a4v(hr:Rel P G base R μ st a w){b:Bool}(h:gB o all st.tmps=some b):Region.wanted o (yielded all a.tmps)=b:=by
 unfold gB at h;unfold Region.wanted;split at h
 .rename_i hg;rw[hg];simpa using h
 .rename_i j want hg;rw[hg];simp only;unfold wR at h;unfold yielded;cases hd:(all[j]?).bind (·.dst)with
  |none=>rw[hd]at h;simp at h;subst h;rfl
  |some t=>
   rw[hd]at h;simp only[Option.bind_some]at h|-;by_cases ht:t<a.tmps.size
   .have h1:a.tmps[t]? =some a.tmps[t]:=g3r ht;have ht':t<st.tmps.length:=by rw[<-hr.size];exact ht
    have h2:st.tmps[t]? =some st.tmps[t]:=g3d ht';have hv:=hr.tmps t _ _ h1 h2;rw[h2]at h;simp only[Option.getD_some]at h;rw[h1];generalize a.tmps[t]=v at *;generalize st.tmps[t]=d at *;cases hv with
    |undef=>cases h
    |rQ=>cases h
    |d v x hx=>
     cases hx with
     |bool b'=>simp at h;subst h;cases b'<;>cases want<;>rfl
     |_=>simp at h;subst h;rfl
    |_=>simp at h;subst h;rfl
   .have h1:a.tmps[t]? =none:=Array.getElem?_eq_none (g3I ht);have h2:st.tmps[t]? =none:=g3G (by rw[<-hr.size];exact g3I ht);rw[h2]at h;simp at h;subst h;rw[h1]
    rfl
theorem c0B(hr:Rel P G base R μ st a w):∀{l:List Operand}{ds:List D},zW (l.map (st.eval G))=some ds->l.length=ds.length/\∀(i:Nat)(d:D),ds[i]? =some d->V R w ((l.map a.eval).getD i undef) d
 |[],ds,h=>by simp[zW]at h;subst h;simp
 |x::l,ds,h=>by
  simp only[List.map_cons]at h;cases hx:st.eval G x with
  |d y=>
   rw[hx]at h;simp only[zW]at h;split at h<;>simp at h;rename_i ds' hds;subst h;obtain⟨h1,h2⟩:=c0B hr hds;refine⟨by simp[h1],λi d hi=>?_⟩;cases i with
   |zero=>simp at hi;subst hi;exact hr.pQ hx
   |succ i=>simp at hi;simpa using h2 i d hi
  |_=>rw[hx]at h;simp[zW]at h
variable{d e r:DV}{ds:List D}{f:FuncId}{Q:Exit->Act->World->Prop}
theorem d1q{own:Option TypeId}(hc:kT G o st=some (f,ds))(sN:Enters P f/\CS P G f ds r own)(hr:Rel P G base R μ st a w){K:Act->World->Prop}(h:∀v R' w',Rel P G base R' μ (finish st o.dst r (a6Q own)) (a.put o.dst v) w'->Step base R w R' w'->K (a.put o.dst v) w'):o.wp P a w K Q:=by
 unfold kT at hc;split at hc
 .rename_i x args ts qA;split at hc
  .rename_i f' ds' hx hds;simp at hc;obtain⟨rfl,rfl⟩:=hc;obtain⟨⟨fn,hf1,hf2,hf3⟩,sN⟩:=sN;obtain⟨hl,hv⟩:=c0B hr hds;have a6O:(execOp a.eval o).run P w=.ok (.enter f' (args.map a.eval)) w:=by
    have c2q:¬fn.body=none:=λhe=>by simp[he]at hf2
    have c2r:¬fn.name= "runtime.NumGoroutine" :=by simpa using hf3
    simp[execOp,qA,resolve,hr.b6c hx,Deferred.ofValue,invoke,callFunc,hf1,c2q,c2r]
   unfold Oper.wp;rw[a6O]
   show Calls P f' (args.map a.eval) w _
   refine(sN w R (args.map a.eval) (hr.wS.up hr.base) hr.rY (by simpa using hl) (λi d hi=>by have:=hv i d hi;simpa[g3b,List.getD]using this)).mono λe w' ⟨v,R',he,htv,hs,jD,ho⟩=>?_
   subst he;have hsb:Step base R w R' w':=⟨hs.below.mono hr.base,hs.mono,λb o q1 q2=>hr.base b (hs.new b o q1 q2),hs.cells⟩;have hrel:=hr.step hsb hs.below.below.block hs.new jD;refine h v R' w' (hrel.put (htv μ) ?_) hsb;cases own with
   |none=>trivial
   |some e=>
    have oG:=ho e rfl;refine⟨?_,λk o' hk hsp=>?_,?_⟩
    .rcases oG with q|⟨g,n,cap,cur,q1,q2,q3⟩
     .exact .inl q
     .exact .inr ⟨g,n,cap,cur,q1,hr.base _ q2,q3⟩
    .obtain⟨_,_,h3⟩:=hr.mE k o' hk;have h1:w.heap.size<=μ k:=oG.a2X hsp;have h2:=h3.lt;omega
    .obtain⟨vs,sU⟩:=hr.own;refine⟨vs,sU.step hr hs.below.below.block (λb o hb q=>by
      by_cases hR:R b o
      .exact hR
      .have:=hs.new b o q hR;omega),λv' hv'=>⟨λg hg hg'=>?_,λg hg hg'=>?_⟩⟩
     .have h1:w.heap.size<=g:=oG.a2X hg;have h2:=sU.lt hv' hg';omega
     .have h1:w.heap.size<=g:=oG.a2X hg';have h2:=sU.lt hv' hg;omega
  .cases hc
 .cases hc
theorem CS.forget{own:Option TypeId}(h:CS P G f ds r own):CS P G f ds r none:=λw R args hg hR hl hv=>(h w R args hg hR hl hv).mono λe w' ⟨v,R',h1,h2,h3,h4,_⟩=>⟨v,R',h1,h2,h3,h4,λ_ he=>by cases he⟩
theorem b6m{g2X:List DV}{s':St}(hc:dY G o st=some (f,g2X))(sN:Enters P f/\oR P G f g2X (oF o) st o.dst s')(hr:Rel P G base R μ st a w){K:Act->World->Prop}(h:∀v R' μ' w',Rel P G base R' μ' s' (a.put o.dst v) w'->Step base R w R' w'->K (a.put o.dst v) w'):o.wp P a w K Q:=by
 obtain⟨⟨fn,hf1,hf2,hf3⟩,sN⟩:=sN;have c2q:¬fn.body=none:=λhe=>by simp[he]at hf2
 have c2r:¬fn.name= "runtime.NumGoroutine" :=by simpa using hf3
 have main:∀args:Array Value,(execOp a.eval o).run P w=.ok (.enter f args) w->args.size=g2X.length->(∀(i:Nat)(d:DV),g2X[i]? =some d->TV R μ w (args.getD i undef) d)->
   (∀(i:Nat)(l:Loc),(oF o)[i]? =some (some l)->∀u,cX a w μ l=some u->u=args.getD i undef)->o.wp P a w K Q:=λargs a6O hl hv a8V=>by
  unfold Oper.wp;rw[a6O]
  show Calls P f args w _
  refine(sN base R μ a w args hr hl hv a8V).mono λe w' ⟨v,R',μ',he,hrel,hs⟩=>?_;subst he;exact h v R' μ' w' hrel hs
 have each:∀(l:List Operand)(i:Nat)(d:DV),(l.map (st.eval G))[i]? =some d->TV R μ w ((l.map a.eval).getD i undef) d:=λl i d hi=>by
  rw[g3j]at hi;obtain⟨x,hx,rfl⟩:=g2Y.1 hi;have:(l.map a.eval).getD i undef=a.eval x:=by simp[List.getD,hx]
  rw[this];exact hr.eval x
 have eR:∀(args:Array Operand)(vs:Array Value),oF o=args.toList.map a6E->∀(i:Nat)(l:Loc),(oF o)[i]? =some (some l)->∀u,cX a w μ l=some u->u=(args.map a.eval++vs).getD i undef:=λargs vs rZ i l hi u hu=>by
  rw[rZ,g3j]at hi;obtain⟨x,hx,hxl⟩:=g2Y.1 hi;cases x with
  |tmp t=>
   simp only[a6E,g3f]at hxl;subst hxl;simp only[cX]at hu;have aG:i<args.size:=by have:=(g3a.1 hx).1;simpa using this
   have he:args[i]? =some (.tmp t):=by simpa using hx
   rw[g3b,g3H (by simpa using aG),Array.getElem?_map,he];simp[Act.eval,hu]
  |_=>cases hxl
 unfold dY at hc;split at hc
 .rename_i x args ts qA;have rZ:oF o=args.toList.map a6E:=by simp[oF,qA]
  split at hc
  .rename_i f' hx;simp at hc;obtain⟨rfl,rfl⟩:=hc;refine main (args.map a.eval) ?_ (by simp) (λi d hi=>?_) (by simpa using eR args #[] rZ)
   .simp[execOp,qA,resolve,hr.b6c hx,Deferred.ofValue,invoke,callFunc,hf1,c2q,c2r]
   .have:=each args.toList i d hi;simpa[g3b,List.getD]using this
  .rename_i f' cs hx;simp at hc;obtain⟨rfl,rfl⟩:=hc;obtain⟨vs,he,sU,hvc⟩:=(hr.qQ hx).b1l;refine main (args.map a.eval++vs) ?_ (by simp[sU]) (λi d hi=>?_) (eR args vs rZ)
   .simp[execOp,qA,resolve,he,Deferred.ofValue,invoke,callFunc,hf1,c2q,c2r]
   .by_cases aG:i<args.size
    .rw[g3k (by simpa using aG)]at hi;have:=each args.toList i d hi;rw[g3b,g3H (by simpa using aG)];simpa[g3b,List.getD]using this
    .rw[g3h (by simp;omega)]at hi;simp only[List.length_map,Array.length_toList]at hi;have:=hvc _ d hi;rw[g3b,g3W (by simp;omega)];simpa[g3b]using this
  .cases hc
 .cases hc
variable{q:Bool}
theorem c9b{P:Program}{G:GT}{st:St}{out:Out}(_:pB P G o st=some out):b1q q all o out.v out.act=.no\/b1q q all o out.v out.act=out.act:=by
 unfold b1q a8W;split
 .split
  .exact .inr rfl
  .exact .inl rfl
 .exact .inr rfl
theorem c5k:∀{l:List DV}{ds:List D},zW l=some ds->l=ds.map .d
 |[],ds,h=>by simp[zW]at h;subst h;rfl
 |.d x::l,ds,h=>by
  simp only[zW]at h;split at h
  .rename_i ds' hd;simp at h;subst h;rw[c5k hd];rfl
  .cases h
 |.undef::_,_,h=>by simp[zW]at h
 |.ptr _ _::_,_,h=>by simp[zW]at h
 |.ep _::_,_,h=>by simp[zW]at h
 |.mp _::_,_,h=>by simp[zW]at h
 |.it _::_,_,h=>by simp[zW]at h
 |.cY _::_,_,h=>by simp[zW]at h
 |.fn _::_,_,h=>by simp[zW]at h
 |.rQ::_,_,h=>by simp[zW]at h
 |.a0E _::_,_,h=>by simp[zW]at h
 |.clo _ _::_,_,h=>by simp[zW]at h
 |.ag _::_,_,h=>by simp[zW]at h
theorem c9c(h:kT G o st=some (f,ds)):dY G o st=some (f,ds.map .d):=by
 unfold kT at h;unfold dY;split at h
 .rename_i x args ts qA;split at h
  .rename_i f' ds' hx hds;simp at h;obtain⟨rfl,rfl⟩:=h;simp only[qA,hx];rw[c5k hds]
  .cases h
 .cases h
variable{K:St->Prop}
theorem uE{KK:Act->World->Prop}(h:qN P G q all o K st)(hr:Rel P G base R μ st a w)(hk:∀s v w' R' μ',K s->Rel P G base R' μ' s (a.put o.dst v) w'->Step base R w R' w'->KK (a.put o.dst v) w'):
  if Region.wanted o (yielded all a.tmps) then o.wp P a w KK Q\/(o.asks P a w/\LetsOut Q) else KK (a.put o.dst Go.undef) w:=by
 unfold qN at h;split at h
 .rename_i hw;rw[a4v hr hw,if_pos rfl];refine .inl ?_;split at h
  .rename_i f ds hc;rcases h with⟨r,own,sN,_,h⟩|⟨_,s',sN,h⟩
   .generalize (q&& !wG all o)=qn at h;cases qn with
    |true=>exact d1q hc ⟨sN.1,sN.2.forget⟩ hr λv R1 w1 hrel hs=>hk _ v w1 R1 μ h hrel hs
    |false=>exact d1q hc sN hr λv R1 w1 hrel hs=>hk _ v w1 R1 μ h hrel hs
   .exact b6m (c9c hc) sN hr λv R1 μ1 w1 hrel hs=>hk _ v w1 R1 μ1 h hrel hs
  .split at h
   .rename_i f g2X zN;unfold a3d at h;split at h
    .obtain⟨d,ks,⟨h1,h2,h3,_⟩,h⟩:=h;exact b6m zN ⟨h1,h2 st (λ_ _=>rfl) h3 _ _⟩ hr λv R1 μ1 w1 hrel hs=>hk _ v w1 R1 μ1 h hrel hs
    .obtain⟨s',sN,h⟩:=h;exact b6m zN sN hr λv R1 μ1 w1 hrel hs=>hk _ v w1 R1 μ1 h hrel hs
   split at h
   .rename_i out hv;obtain⟨v,w1,R1,μ1,dD,hrel,htv,a0Y,hs⟩:=e7i hv base R μ a w hr;have f1V:a6F P base R1 μ1 out.st a w1 v (b1q q all o out.v out.act):=by
     rcases c9b (q:=q) (all:=all) hv with he|he
     .rw[he];trivial
     .rw[he];exact a0Y
    have hgo:=hk _ v w1 R1 μ1 h (hrel.put (dst:=o.dst) htv f1V) hs;unfold Oper.wp;rcases dD with dD|⟨dD,rfl⟩
    .rw[dD];exact hgo
    .rw[dD];exact hgo
   .cases h
 .rename_i hw;rw[a4v hr hw];simp only[g3t,if_false];exact hk _ _ w R μ h (hr.put (dst:=o.dst) (v:=Go.undef) (.cY #[] [] rfl (by simp)) trivial) (.refl _ _ _)
 .cases h
theorem c2s{q:Bool}(all:Array Oper)(Q:Exit->Act->World->Prop):∀(l:List Oper)(st:St)(K:St->Prop),wN P G q all l st K->∀(base:dU)(R:Nat->Nat->Prop)(μ:Nat->Nat)(a:Act)(w:World),Rel P G base R μ st a w->
  (∀s a' w' R' μ',K s->Rel P G base R' μ' s a' w'->Step base R w R' w'->Q .normal a' w')->wpList P all Q l a w
 |[],st,K,h,base,R,μ,a,w,hr,hk=>hk st a w R μ h hr (.refl _ _ _)
 |o::rest,st,K,h,base,R,μ,a,w,hr,hk=>by unfold wpList;exact uE h hr λs v w' R' μ' h' jD uO=>c2s all Q rest s K h' base R' μ' _ w' jD λs a' w2 R2 μ2 q1 q2 q3=>hk s a' w2 R2 μ2 q1 q2 (uO.trans q3)
theorem jM{K':St->Prop}(hk:∀s,K s->K' s)(h:qN P G q all o K st):qN P G q all o K' st:=by
 unfold qN at *;split
 .rename_i hw;rw[hw]at h;simp only at h|-;split
  .rename_i f ds hc;rw[hc]at h;rcases h with⟨r,own,h1,h3,h2⟩|⟨h0,s',h1,h2⟩
   .exact .inl ⟨r,own,h1,h3,hk _ h2⟩
   .exact .inr ⟨h0,s',h1,hk _ h2⟩
  .rename_i hc;rw[hc]at h;simp only at h;split
   .rename_i f g2X zN;rw[zN]at h;simp only[a3d]at h|-;split
    .rename_i hro;rw[if_pos hro]at h;obtain⟨d,ks,h1,h2⟩:=h;exact⟨d,ks,h1,hk _ h2⟩
    .rename_i hro;rw[if_neg hro]at h;obtain⟨s',h1,h2⟩:=h;exact⟨s',h1,hk _ h2⟩
   rename_i zN;rw[zN]at h;simp only at h;split
   .rename_i out ho;rw[ho]at h;exact hk _ h
   .rename_i ho;rw[ho]at h;exact h
 .rename_i hw;rw[hw]at h;exact hk _ h
 .rename_i hw;rw[hw]at h;exact h
def QY(P:Program)(G:GT)(all:Array Oper)(o:Oper)(d:DV)(act:OA)(st:St):Prop:=
 (gB o all st.tmps=some true/\((∃f ds own,kT G o st=some (f,ds)/\Enters P f/\CS P G f ds d own/\qK d=true/\act=a6Q own)\/(kT G o st=none/\dY G o st=none/\pB P G o st=some ⟨d,act,st⟩)\/
  (kT G o st=none/\∃f g2X ks,dY G o st=some (f,g2X)/\Enters P f/\RO P G f g2X ks st.H d/\oM ks st.own=true/\(ks.all λk=>(getKey k st.H).isSome)=true/\qK d=true/\act=.no)))\/(gB o all st.tmps=some false/\d=.cY []/\act=.no)
variable{s st':St}
theorem c0D(hq:dW o.op=true)(he:∀x∈o.op.operands,st'.eval G x=st.eval G x)(hH:∀x∈o.op.operands,∀k,mentions k (st.eval G x)=true->getKey k st'.H=getKey k st.H):pB P G o st'=(pB P G o st).map λout=>⟨out.v,out.act,st'⟩:=by
 obtain⟨dst,op,ty,pos,after,guard⟩:=o;have parts:∀ps:List (Nat×Operand),(∀x∈ps.map (·.2),st'.eval G x=st.eval G x)->a3J G st' ps=a3J G st ps:=by
  intro ps
  induction ps with
  |nil=>intro _;rfl
  |cons p ps ih=>intro hp;obtain⟨i,x⟩:=p;unfold a3J;rw[hp x (by simp),ih λy hy=>hp y (by simp at hy|-;exact .inr hy)]
 have e7j:∀ps:List (Nat×Operand),(∀x∈ps.map (·.2),st'.eval G x=st.eval G x)->a0W G st' ps=a0W G st ps:=by
  intro ps
  induction ps with
  |nil=>intro _;rfl
  |cons p ps ih=>intro hp;obtain⟨i,x⟩:=p;unfold a0W;rw[hp x (by simp),ih λy hy=>hp y (by simp at hy|-;exact .inr hy)]
 have dB:∀(x:Option Operand)(d n:Nat),(∀y,x=some y->st'.eval G y=st.eval G y)->jR G st' x d n=jR G st x d n:=λx d n hx=>by
  cases x with
  |none=>rfl
  |some y=>simp only[jR,hx y rfl]
 cases op<;>simp only[dW]at hq<;>try cases hq
 all_goals simp only[Op.operands]at he hH
 case move x=>simp[pB,a4p,he]
 case assign x=>simp[pB,a4p,he]
 case pick c a b=>simp only[pB,b5Z,he c (by simp),he a (by simp),he b (by simp)];split<;>rfl
 case build t ps=>
  simp only[pB,a9V,parts ps.toList λx hx=>he x (by simpa using hx)];split
  .split
   .simp[g3A,Function.comp_def]
   .simp only[a8l,e7j ps.toList λx hx=>he x (by simpa using hx)];split
    .simp[g3A,Function.comp_def]
    .rfl
  .rfl
 case buildSlice t n ps=>
  simp only[pB,uR,parts ps.toList λx hx=>he x (by simpa using hx)];split
  .split<;>rfl
  .rfl
 case load t x=>
  simp only[pB,b3V,he x (by simp)];split
  .rename_i k off hx;rw[hH x (by simp) k (by rw[hx];simp[mentions])];split
   .simp[g3A,Function.comp_def]
   .rfl
  .simp[g3A,Function.comp_def]
  .rfl
 case nilCheck x=>simp only[pB,xR,he x (by simp)];split<;>rfl
 case binOp op t x y u=>
  simp only[pB,b6a,a2a,c8K,he x (by simp),he y (by simp)];split
  .split<;>rfl
  .split
   .simp[g3A,Function.comp_def]
   .rfl
 case unOp op t x=>
  simp only[pB,vUn,he x (by simp)];split
  .simp[g3A,Function.comp_def]
  .rfl
 case convert src dst x=>
  simp only[pB,b6b,he x (by simp)];split
  .simp[g3A,Function.comp_def]
  .rfl
 case extract x i=>
  simp only[pB,a2b,he x (by simp)];split
  .simp[g3A,Function.comp_def]
  .rfl
 case field t x i=>
  simp only[pB,a9W,he x (by simp)];split
  .simp[g3A,Function.comp_def]
  .rfl
 case index t x i=>
  simp only[pB,a9X,he x (by simp),he i (by simp)];split
  .simp[g3U,g3A,Function.comp_def]
  .simp[g3U,g3A,Function.comp_def]
  .rfl
 case indexAddr t x i=>
  simp only[pB,uS,he x (by simp),he i (by simp)];split
  .rw[g3U];congr 1;funext j;simp only[Function.comp];rw[g3U];congr 1;funext cs;simp only[Function.comp];split<;>rfl
  .split
   .rfl
   .simp[g3A,Function.comp_def]
  .split
   .rfl
   .simp[g3A,Function.comp_def]
  .rfl
 case fieldAddr t x i=>
  simp only[pB,uT,he x (by simp)];split
  .split
   .rfl
   .split<;>rfl
  .rfl
 case slice t x lo hi mx=>
  have rZ:∀y,lo=some y->st'.eval G y=st.eval G y:=λy hy=>he y (by simp[hy]);have hhi:∀y,hi=some y->st'.eval G y=st.eval G y:=λy hy=>he y (by simp[hy]);have hmx:∀y,mx=some y->st'.eval G y=st.eval G y:=λy hy=>he y (by simp[hy]);simp only[pB,a9Y,he x (by simp),dB lo _ _ rZ,dB hi _ _ hhi];split
  .simp[g3U,g3A,Function.comp_def]
  .split
   .simp[g3U,g3A,Function.comp_def]
   .rfl
  .split
   .simp[g3U,g3A,Function.comp_def]
   .rfl
  .rw[dB (some _) _ _ λy hy=>hmx y hy];split<;>rfl
  .rw[dB (some _) _ _ λy hy=>hmx y hy];split<;>rfl
  .rfl
 case call c=>
  obtain⟨callee,args,ts⟩:=c;cases callee with
  |value f=>simp[pB]
  |invoke r m=>simp at hq
  |builtin b=>
   have mem:∀{x:Operand}{l:List Operand},args.toList=l->x∈l->st'.eval G x=st.eval G x:=λhl hx=>he _ (by simp only[Op.operands,Call.operands];rw[<-g3X];simp[hl,hx]);cases b<;>simp only[]at hq<;>try cases hq
   .simp only[pB,uU];split
    .rename_i x t _ heq _;have hx:st'.eval G x=st.eval G x:=mem heq (by simp);have hxm:x∈args:=by rw[<-g3X];simp[heq]
     simp only[d2D,hx];split
     .rfl
     .rfl
     .rfl
     .rfl
    .rename_i h1 _ _;cases h1
    .rename_i h1 _;cases h1
    .rename_i h1 _;cases h1
    .rfl
   .simp only[pB,uU];split
    .rename_i h1 _ _;cases h1
    .rename_i h1 _ _;cases h1
    .rename_i x y _ heq;have hx:st'.eval G x=st.eval G x:=mem heq (by simp);have hy:st'.eval G y=st.eval G y:=mem heq (by simp);simp only[d2E,hx,hy];split<;>rfl
    .rename_i h1 _;cases h1
    .rfl
   .simp only[pB,uU];split
    .rename_i h1 _ _;cases h1
    .rename_i h1 _ _;cases h1
    .rename_i h1 _;cases h1
    .rename_i x y _ heq;have hx:st'.eval G x=st.eval G x:=mem heq (by simp);have hy:st'.eval G y=st.eval G y:=mem heq (by simp);simp only[d2F,hx,hy];split<;>rfl
    .rfl
theorem c5l(hq:dW o.op=true)(h:pB P G o st=some out):out.st=st:=by have:=c0D (P:=P) (G:=G) (st:=st) (st':=st) hq (λ_ _=>rfl) (λ_ _ _ _=>rfl);rw[h]at this;simp at this;have h2:=congrArg Out.st this;simpa using h2
theorem a6R(st:St)(dst:Option Tmp)(d:DV)(act:OA):(finish st dst d act).H=st.H:=by cases dst<;>rfl
variable{dst:Option Tmp}
theorem c5m{act:OA}{x:Operand}(h:∀t,dst=some t->x≠ .tmp t):(finish st dst d act).eval G x=st.eval G x:=by
 cases dst with
 |none=>rfl
 |some t=>
  cases x with
  |tmp j=>have gK:t≠j:=λe=>h t rfl (e▸rfl);simp[finish,St.eval,List.getElem?_set_ne gK]
  |_=>rfl
theorem b0f{act:OA}(h:∀t,dst=some t->t ∉ o.looksAt all):∀x∈o.op.operands,(finish st dst d act).eval G x=st.eval G x:=λx hx=>c5m λt ht hxt=>h t ht (by subst hxt;exact List.mem_append_left _ (g3E.2 ⟨.tmp t,by simpa using hx,rfl⟩))
theorem bN{act:OA}(h:∀t,dst=some t->t ∉ o.looksAt all):gB o all (finish st dst d act).tmps=gB o all st.tmps:=by
 cases dst with
 |none=>rfl
 |some t=>
  unfold gB;cases hg:o.guard with
  |none=>rfl
  |some gw=>
   obtain⟨g,want⟩:=gw;have hy:wR all (finish st (some t) d act).tmps g=wR all st.tmps g:=by
    unfold wR;cases ht:(all[g]?).bind (·.dst)with
    |none=>rfl
    |some j=>have gK:t≠j:=λe=>h t rfl (by subst e;simp[Oper.looksAt,hg,ht]);simp[finish,List.getElem?_set_ne gK]
   simp only[hy]
theorem c2t(h:∀x∈o.op.operands,st'.eval G x=st.eval G x):kT G o st'=kT G o st:=by
 unfold kT;split
 .rename_i x args ts qA;rw[qA]at h;have hx:=h x (by simp[Op.operands,Call.operands]);have ha:args.toList.map (st'.eval G)=args.toList.map (st.eval G):=List.map_congr_left λy hy=>h y (by simp[Op.operands,Call.operands];exact .inr (by simpa using hy));rw[hx,ha]
 .rfl
theorem b9v(h:∀x∈o.op.operands,st'.eval G x=st.eval G x):dY G o st'=dY G o st:=by
 unfold dY;split
 .rename_i x args ts qA;rw[qA]at h;have hx:=h x (by simp[Op.operands,Call.operands]);have ha:args.toList.map (st'.eval G)=args.toList.map (st.eval G):=List.map_congr_left λy hy=>h y (by simp[Op.operands,Call.operands];exact .inr (by simpa using hy));rw[hx,ha]
 .rfl
theorem b0g(ks:List Nat)(t:Tmp)(own:List (TypeId×List Loc)):oM ks (dF (.t t) own)=oM ks own:=by
 unfold oM dF;rw[List.all_map];congr 1;funext c;simp only[Function.comp]
 induction c.2 with
 |nil=>rfl
 |cons l r ih=>
  by_cases hl:l=.t t
  .subst hl;rw[List.filter_cons_of_neg (by simp),ih]
   rfl
  .rw[List.filter_cons_of_pos (by simp[hl]),List.all_cons,List.all_cons,ih]
theorem c5n(ks:List Nat)(s:Loc)(t:Tmp)(own:List (TypeId×List Loc)):oM ks (addAlias s (.t t) own)=oM ks own:=by
 unfold oM addAlias;rw[List.all_map];congr 1;funext c;simp only[Function.comp];split
 .rw[List.all_cons];rfl
 .rfl
theorem b1r(ks:List Nat)(dst:Option Tmp)(d:DV)(act:OA):oM ks (VM.finish st dst d act).own=oM ks st.own:=by
 cases dst with
 |none=>rfl
 |some t=>
  simp only[VM.finish];cases act with
  |no=>exact b0g ks t _
  |al l=>
   simp only[gH];split
   .rfl
   .rw[c5n,b0g]
  |fresh e=>
   simp only[gH];have:=b0g ks t st.own;unfold oM at this|-;rw[List.all_cons,this]
   rfl
theorem d5P{x:FuncId×List DV}(h:dY G o st=some x):a5i o=true:=by
 unfold dY at h;unfold a5i;split at h
 .rename_i qA;rw[qA]
 .cases h
variable{ac:OA}
theorem QY.to(h:QY P G all o d ac st)(hq:dW o.op=true)(hw:gB o all st'.tmps=gB o all st.tmps)(he:∀x∈o.op.operands,st'.eval G x=st.eval G x)(hH:∀x∈o.op.operands,∀k,mentions k (st.eval G x)=true->getKey k st'.H=getKey k st.H)(hk:a5i o=true->∀k o,getKey k st.H=some o->getKey k st'.H=some o)(hn:a5i o=true->∀ks,(ks.all λk=>(getKey k st.H).isSome)=true->oM ks st.own=true->oM ks st'.own=true):QY P G all o d ac st':=by
 unfold QY at h|-;rw[hw,c2t he,b9v he,c0D hq he hH];rcases h with⟨h0,h|⟨h1,h2,h3⟩|⟨h1,f,g2X,ks,h2,h3,h4,h5,h6,h7,h8⟩⟩|h
 .exact .inl ⟨h0,.inl h⟩
 .exact .inl ⟨h0,.inr (.inl ⟨h1,h2,by rw[h3];rfl⟩)⟩
 .have hv:=d5P h2;have hks:∀k∈ks,getKey k st'.H=getKey k st.H:=λk yK=>by obtain⟨ob,hob⟩:=g3B.1 (g3c.1 h6 k yK);rw[hob];exact hk hv k ob hob
  refine .inl ⟨h0,.inr (.inr ⟨h1,f,g2X,ks,h2,h3,λs hs uV=>h4 s (λk yK=>(hs k yK).trans (hks k yK)) uV,hn hv ks h6 h5,g3c.2 λk yK=>?_,h7,h8⟩)⟩;rw[hks k yK];exact g3c.1 h6 k yK
 .exact .inr h
theorem QY.finish{all:Array Oper}{o:Oper}{d x:DV}{ac:OA}{dst:Option Tmp}{act:OA}(hq:dW o.op=true)(h:∀t,dst=some t->t ∉ o.looksAt all):QY P G all o d ac (VM.finish st dst x act)↔QY P G all o d ac st:=by
 have he:=b0f (G:=G) (st:=st) (d:=x) (act:=act) h;refine⟨λhy=>QY.to hy hq (bN h).symm (λy hy=>(he y hy).symm) (λ_ _ _ _=>by rw[a6R]) (λ_ k ob hk=>by rw[a6R]at hk;exact hk) (λ_ ks _ hn=>by rw[b1r]at hn;exact hn),
  λhy=>QY.to hy hq (bN h) he (λ_ _ _ _=>by rw[a6R]) (λ_ k ob hk=>by rw[a6R];exact hk) (λ_ ks _ hn=>by rw[b1r];exact hn)⟩
theorem c9d(hq:dW o.op=true)(hal:pH all o=false):qN P G true all o K st↔∃d act,QY P G all o d act st/\K (finish st o.dst d (a8W all o act)):=by
 have a0Y:∀d act,b1q true all o d act=a8W all o act:=λd act=>by simp[b1q,hq]
 have uV:a8W all o .no=.no:=by unfold a8W;split<;>rfl
 have hqn:∀a,a8W all o a=if true&& !wG all o then .no else a:=λa=>by unfold a8W;cases wG all o<;>rfl
 unfold qN QY;constructor
 .intro h;split at h
  .rename_i hw;rw[hw];split at h
   .rename_i f ds hc;rcases h with⟨r,own,⟨h1,h2⟩,h4,h3⟩|⟨h0,_⟩
    .exact⟨r,a6Q own,.inl ⟨rfl,.inl ⟨f,ds,own,hc,h1,h2,h4 rfl,rfl⟩⟩,by rw[hqn];exact h3⟩
    .simp[uD,hal]at h0
   .rename_i hc;split at h
    .rename_i f g2X zN;simp only[a3d,uD,hal,Bool.not_false,Bool.true_or,Bool.and_self,if_true]at h;obtain⟨d,ks,⟨h1,h2,h3,h5,h6⟩,h4⟩:=h;exact⟨d,.no,.inl ⟨rfl,.inr (.inr ⟨hc,f,g2X,ks,zN,h1,h2,h3,h5,h6,rfl⟩)⟩,by rw[uV];exact h4⟩
    .rename_i zN;split at h
     .rename_i out ho;rw[a0Y]at h;have hs:=c5l hq ho;obtain⟨v,act,s2⟩:=out;simp only at hs;subst hs;exact⟨v,act,.inl ⟨rfl,.inr (.inl ⟨hc,zN,ho⟩)⟩,h⟩
     .cases h
  .rename_i hw;exact⟨.cY [],.no,.inr ⟨hw,rfl,rfl⟩,by rw[uV];exact h⟩
  .cases h
 .rintro⟨d,act,(⟨hw,⟨f,ds,own,hc,h1,h2,h4,rfl⟩|⟨hc,zN,ho⟩|⟨hc,f,g2X,ks,zN,h1,h2,h3,h5,h6,rfl⟩⟩|⟨hw,rfl,rfl⟩),hk⟩
  .rw[hqn]at hk;rw[hw];simp only;rw[hc];exact .inl ⟨d,own,⟨h1,h2⟩,λ_=>h4,hk⟩
  .rw[hw];simp only;rw[hc];simp only;rw[zN];simp only;rw[ho];simp only;rw[a0Y];exact hk
  .rw[uV]at hk;rw[hw];simp only;rw[hc];simp only;rw[zN];simp only[a3d,uD,hal,Bool.not_false,Bool.true_or,Bool.and_self,if_true];exact⟨d,ks,⟨h1,h2,h3,h5,h6⟩,hk⟩
  .rw[uV]at hk;rw[hw];exact hk
def c2u(all:Array Oper)(o:Oper)(a:OA):Prop:=a=.no\/(wG all o=true/\∃e,a=.fresh e)\/∃l i,o.dst=some i/\wG all o=true/\l≠ .t i/\(∀u,u ∉ o.looksAt all->l≠ .t u)/\a=.al l
theorem a3e(v:DV)(a:OA):uQ v a=.no\/uQ v a=a:=by
 unfold uQ;split
 .exact .inr rfl
 .exact .inl rfl
theorem QY.act{all:Array Oper}{o:Oper}{d:DV}{act:OA}(h:QY P G all o d act st):c2u all o (a8W all o act):=by
 unfold a8W;split
 .rename_i hn;rcases h with⟨hw,⟨f,ds,own,hc,h1,h2,_,rfl⟩|⟨hc,zN,ho⟩|⟨hc,f,g2X,ks,zN,h1,h2,h3,_,_,rfl⟩⟩|⟨hw,rfl,rfl⟩
  .cases own with
   |none=>exact .inl rfl
   |some e=>exact .inr (.inl ⟨hn,e,rfl⟩)
  .obtain⟨dst,op,ty,pos,after,guard⟩:=o;have hn':=hn;unfold wG at hn;split at hn
   .rename_i j i hg qA hd;simp only at hg qA hd;subst hg qA hd;simp only[g2Z,bne_iff_ne]at hn;have:act=uQ (st.eval G (.tmp j)) (.al (.t j)):=by simp only[pB,a4p,g3f,Out.mk.injEq]at ho;exact ho.2.1.symm
    rcases a3e (st.eval G (.tmp j)) (.al (.t j))with h1|h1
    .exact .inl (this.trans h1)
    .exact .inr (.inr ⟨.t j,i,rfl,hn',λe=>hn.1 (by cases e;rfl),λu hu e=>hu (by cases e;simp[Oper.looksAt,Op.operands]),this.trans h1⟩)
   .rename_i j i hg qA hd;simp only at hg qA hd;subst hg qA hd;simp only[g2Z,bne_iff_ne]at hn;have:act=uQ (st.eval G (.tmp j)) (.al (.t j)):=by simp only[pB,a4p,g3f,Out.mk.injEq]at ho;exact ho.2.1.symm
    rcases a3e (st.eval G (.tmp j)) (.al (.t j))with h1|h1
    .exact .inl (this.trans h1)
    .exact .inr (.inr ⟨.t j,i,rfl,hn',λe=>hn.1 (by cases e;rfl),λu hu e=>hu (by cases e;simp[Oper.looksAt,Op.operands]),this.trans h1⟩)
   .rename_i ty' j i hg qA hd;simp only at hg qA hd;subst hg qA hd;simp only[pB,b3V]at ho;split at ho
    .rename_i k off _;split at ho
     .rename_i cs hk;obtain⟨y,_,he⟩:=g2Y.1 ho;simp only[Out.mk.injEq]at he;have:act=uQ y (.al (.c k off)):=he.2.1.symm;rcases a3e y (.al (.c k off))with h1|h1
      .exact .inl (this.trans h1)
      .exact .inr (.inr ⟨.c k off,i,rfl,hn',(by simp),(λu _=>by simp),this.trans h1⟩)
     .cases ho
    .obtain⟨y,_,he⟩:=g2Y.1 ho;simp only[Out.mk.injEq]at he;exact .inl he.2.1.symm
    .cases ho
   .rename_i cl x i hg qA hd;simp only at hg qA hd;subst hg qA hd;simp[pB]at ho
   .rename_i t n ps i hg qA hd;simp only at hg qA hd;subst hg qA hd;simp only[pB,uR]at ho;split at ho
    .split at ho
     .simp only[g3f,Out.mk.injEq]at ho;exact .inr (.inl ⟨hn',_,ho.2.1.symm⟩)
     .cases ho
    .cases ho
   .cases hn
  .exact .inl rfl
  .exact .inl rfl
 .exact .inl rfl
variable{own:List (TypeId×List Loc)}
theorem sW(x:Loc){y:Loc}:dF x (dF y own)=dF y (dF x own):=by simp only[dF,List.map_map];refine List.map_congr_left λc _=>?_;simp only[Function.comp,List.filter_filter];congr 1;refine List.filter_congr λl _=>?_;rw[Bool.and_comm]
variable{l x:Loc}
theorem a9m(h:l≠x)(c:List Loc):(c.filter λy=>decide (y≠x)).contains l=c.contains l:=by rw[Bool.eq_iff_iff];simp only[List.contains_iff_mem,List.mem_filter,g3N];exact⟨λh=>h.1,λh'=>⟨h',h⟩⟩
theorem b6n{s t:Loc}(h1:s≠x)(h2:t≠x)(own:List (TypeId×List Loc)):addAlias s t (dF x own)=dF x (addAlias s t own):=by
 simp only[addAlias,dF,List.map_map];refine List.map_congr_left λc _=>?_;simp only[Function.comp,a9m h1];split
 .simp[h2]
 .rfl
variable{u:Tmp}
theorem c5o{t:Tmp}(h1:t≠u)(h2:l≠ .t u)(h3:l≠ .t t):gH (.t u) .no (gH (.t t) (.al l) own)=gH (.t t) (.al l) (gH (.t u) .no own):=by have ht:(.t t:Loc)≠ .t u:=λe=>h1 (by cases e;rfl);simp only[gH];rw[if_neg h3,if_neg h3, <- b6n h2 ht,sW]
theorem b0h{e:TypeId}{t:Tmp}(h1:t≠u):gH (.t u) .no (gH (.t t) (.fresh e) own)=gH (.t t) (.fresh e) (gH (.t u) .no own):=by have ht:(.t t:Loc)≠ .t u:=λe=>h1 (by cases e;rfl);simp only[gH];rw[sW (.t t)];simp[dF,ht]
theorem a0K{x:Oper}{ax ay:OA}(h:∀t,x.dst=some t->y.dst≠some t)(hx:∀t,x.dst=some t->t ∉ y.looksAt all)(hy:∀t,y.dst=some t->t ∉ x.looksAt all)(hn:(wG all x&&wG all y)=false)(sx:c2u all x ax)(sy:c2u all y ay):
  finish (finish st x.dst d ax) y.dst e ay=finish (finish st y.dst e ay) x.dst d ax:=by
 cases hxd:x.dst with
 |none=>cases y.dst<;>rfl
 |some t=>
  cases hyd:y.dst with
  |none=>rfl
  |some u=>
   have gK:t≠u:=λhe=>h t hxd (he▸hyd);simp only[finish];rw[List.set_comm _ _ gK];congr 1;rcases sx with rfl|⟨q2,e,rfl⟩|⟨l,i,q1,q2,q3,q4,rfl⟩
   .rcases sy with rfl|⟨q2,e,rfl⟩|⟨l,i,q1,q2,q3,q4,rfl⟩
    .exact sW _
    .exact(b0h (Ne.symm gK)).symm
    .rw[hyd]at q1;cases q1;exact(c5o (Ne.symm gK) (q4 t (hx t hxd)) q3).symm
   .rcases sy with rfl|⟨p2,e',rfl⟩|⟨l',i',p1,p2,p3,p4,rfl⟩
    .exact b0h gK
    .rw[q2,p2]at hn;cases hn
    .rw[q2,p2]at hn;cases hn
   .rw[hxd]at q1;cases q1;rcases sy with rfl|⟨p2,e',rfl⟩|⟨l',i',p1,p2,p3,p4,rfl⟩
    .exact c5o gK (q4 u (hy u hyd)) q3
    .rw[q2,p2]at hn;cases hn
    .rw[q2,p2]at hn;cases hn
def b9w(P:Program)(G:GT)(ops:Array Oper)(Q:St->Prop):Nat->Array Bool->St->Prop
 |0,listed,st=>Region.ready .any ops listed=[]/\Q st
 |fuel+1,listed,st=>(Region.ready .any ops listed=[]->Q st)/\∀i∈Region.ready .any ops listed,match ops[i]? with
  |none=>b9w P G ops Q fuel (listed.setIfInBounds i true) st
  |some o=>qN P G true ops o (b9w P G ops Q fuel (listed.setIfInBounds i true)) st
theorem b5N{ops:Array Oper}{Q:St->Prop}{QQ:Exit->Act->World->Prop}:∀(fuel:Nat)(listed:Array Bool)(st:St),b9w P G ops Q fuel listed st->∀(base:dU)(R:Nat->Nat->Prop)(μ:Nat->Nat)(a:Act)(w:World),Rel P G base R μ st a w->
  (∀s a' w' R' μ',Q s->Rel P G base R' μ' s a' w'->Step base R w R' w'->QQ .normal a' w')->wpAny P .any ops QQ fuel listed a w
 |0,_,st,h,base,R,μ,a,w,hr,hk=>⟨h.1,hk st a w R μ h.2 hr (.refl _ _ _)⟩
 |fuel+1,listed,st,h,base,R,μ,a,w,hr,hk=>by
  refine⟨λh0=>hk st a w R μ (h.1 h0) hr (.refl _ _ _),λi hi=>?_⟩;have h1:=h.2 i hi;unfold wpOp;split
  .rename_i ho;rw[ho]at h1;exact b5N fuel _ st h1 base R μ a w hr hk
  .rename_i o ho;rw[ho]at h1;exact uE h1 hr λs v w' R' μ' h' jD uO=>b5N fuel _ s h' base R' μ' _ w' jD λs a' w2 R2 μ2 q1 q2 q3=>hk s a' w2 R2 μ2 q1 q2 (uO.trans q3)
def gX(ops:Array Oper)(listed:Array Bool):Prop:=∀k,listed.getD k false=true->∀o,ops[k]? =some o->∀e∈o.after,Region.binds .any e=true->listed.getD e.on false=true
variable{i j k:Nat}{listed:Array Bool}
theorem e1f(h0:listed.getD i true=false)(h1:listed.getD i false=true):False:=by
 rcases Nat.lt_or_ge i listed.size with h'|h'
 .simp[h']at h0 h1;rw[h0]at h1;cases h1
 .simp[Array.getElem?_eq_none h']at h1
theorem d5Q{es:List Edge}{n:Nat}{rows:List Nat}:∀(acc:Nat),(es.foldl (λacc e=>if Region.binds .any e=true/\e.on<n then acc |||((1 <<<e.on) |||rows.getD (n-1-e.on) 0) else acc) acc).testBit i=true->
  acc.testBit i=true\/∃e∈es,Region.binds .any e=true/\e.on<n/\(e.on=i\/(rows.getD (n-1-e.on) 0).testBit i=true):=by
 induction es with
 |nil=>intro acc h;exact .inl h
 |cons e es ih=>
  intro acc h;simp only[List.foldl_cons]at h;rcases ih _ h with h|⟨e',h1,h2⟩
  .split at h
   .rename_i hb;rw[Nat.testBit_or,g3l,Nat.testBit_or,g3l]at h;rcases h with h|h|h
    .exact .inl h
    .rw[Nat.testBit_shiftLeft]at h;simp only[g2Z,g3N]at h;have:i-e.on=0:=by
      have h2:=h.2;cases hx:i-e.on with
      |zero=>rfl
      |succ m=>rw[hx,Nat.testBit_succ]at h2;simp at h2
     exact .inr ⟨e,.head _,hb.1,hb.2,.inl (by omega)⟩
    .exact .inr ⟨e,.head _,hb.1,hb.2,.inr h⟩
   .exact .inl h
  .exact .inr ⟨e',.tail _ h1,h2⟩
theorem d2W(o:Oper)(r:List Oper)(n:Nat)(rows:List Nat):rowsOf (o::r) n rows=rowsOf r (n+1) ((o.after.toList.foldl (λacc e=>if Region.binds .any e=true/\e.on<n then acc |||((1 <<<e.on) |||rows.getD (n-1-e.on) 0) else acc) 0)::rows):=by rw[rowsOf];generalize (o.after.toList.foldl (λacc e=>if Region.binds .any e=true/\e.on<n then acc |||((1 <<<e.on) |||rows.getD (n-1-e.on) 0) else acc) 0)=m;cases m<;>rfl
theorem b6o{ops:Array Oper}{i:Nat}:∀(l:List Oper)(n:Nat)(rows:List Nat),rows.length=n->(∀j,l[j]? =ops[n+j]?)->
  (∀k,k<n->(rows.getD (n-1-k) 0).testBit i=true->∃o,ops[k]? =some o/\∃e∈o.after,Region.binds .any e=true/\(e.on=i\/(e.on<k/\(rows.getD (n-1-e.on) 0).testBit i=true)))->
  ∀k,k<n+l.length->((rowsOf l n rows).getD (n+l.length-1-k) 0).testBit i=true->∃o,ops[k]? =some o/\∃e∈o.after,Region.binds .any e=true/\(e.on=i\/(e.on<k/\((rowsOf l n rows).getD (n+l.length-1-e.on) 0).testBit i=true))
 |[],n,rows,_,_,h=>h
 |o::r,n,rows,hlen,hl,h=>by
  rw[d2W];generalize rI:(o.after.toList.foldl (λacc e=>if Region.binds .any e=true/\e.on<n then acc |||((1 <<<e.on) |||rows.getD (n-1-e.on) 0) else acc) 0)=row;have hlc:n+(o::r).length=(n+1)+r.length:=by simp;omega
  rw[hlc];have old:∀m,m<n->(row::rows).getD (n+1-1-m) 0=rows.getD (n-1-m) 0:=λm hm=>by
   have:n+1-1-m=(n-1-m)+1:=by omega
   rw[this];rfl
  refine b6o r (n+1) (row::rows) (by simp[hlen]) (λj=>by have:=hl (j+1);simpa[Nat.add_assoc,Nat.add_comm 1 j]using this) λk hk hb=>?_;by_cases hkn:k<n
  .rw[old k hkn]at hb;obtain⟨o1,h1,e,h2,h3,h4⟩:=h k hkn hb;refine⟨o1,h1,e,h2,h3,?_⟩;rcases h4 with h4|⟨h4,h5⟩
   .exact .inl h4
   .exact .inr ⟨h4,by rw[old e.on (by omega)];exact h5⟩
  .have:k=n:=by omega
   subst this;have h0:k+1-1-k=0:=by omega
   rw[h0]at hb;simp only[List.getD_cons_zero]at hb;rw[<-rI]at hb;rcases d5Q 0 hb with hz|⟨e,h1,h2,h3,h4⟩
   .simp at hz
   .refine⟨o,by simpa using (hl 0).symm,e,by simpa using h1,h2,?_⟩;rcases h4 with h4|h4
    .exact .inl h4
    .exact .inr ⟨h3,by rw[old e.on h3];exact h4⟩
theorem dZ(hc:gX ops listed)(hi:listed.getD i true=false)(n:Nat):∀(k:Nat),(∀o,ops[k]? =some o->∀e∈o.after,Region.binds .any e=true->listed.getD e.on false=true)->kE ops n k i=false:=by
 intro k
 induction k using Nat.strongRecOn with
 |_ k ih=>
  intro hk;cases hb:kE ops n k i with
  |false=>rfl
  |true=>
   unfold kE at hb;rw[g2Z,g3N]at hb;obtain⟨aG,hb⟩:=hb;have mI:0+ops.toList.length=ops.size:=by simp
   obtain⟨o,ho,e,he,hbd,h⟩:=b6o (ops:=ops) ops.toList 0 [] rfl (by simp) (λk hk=>absurd hk (Nat.not_lt_zero _)) k (by omega) (by rw[mI];exact hb);have h1:=hk o ho e he hbd;rcases h with h|⟨h2,h3⟩
   .exact(e1f hi (h▸h1)).elim
   .have:=ih e.on h2 λo' xF=>hc e.on h1 o' xF;unfold kE at this;rw[mI]at h3;rw[h3,Bool.and_true,decide_eq_false_iff_not]at this;exact absurd (Nat.lt_trans h2 aG) this
theorem gX.set(hc:gX ops listed)(hj:j∈Region.ready .any ops listed):gX ops (listed.setIfInBounds j true):=by
 intro k hk o ho e he hb;by_cases hjk:j=k
 .subst hjk;obtain⟨_,o',xF,eS⟩:=mem_ready.1 hj;rw[ho]at xF;cases xF;exact getD_set_true (eS e he hb)
 .rw[getD_set_ne false hjk]at hk;exact getD_set_true (hc k hk o ho e he hb)
theorem xI(h:pH ops o=true)(hk:ops[k]? =some o)(hj:j<ops.size)(gK:j≠k):kE ops ops.size j k=true\/kE ops ops.size k j=true:=by have h1:=g3c.1 h k (List.mem_range.2 (g3i.1 hk).1);simp only[hk,bne_self_eq_false,Bool.false_or]at h1;have h2:=g3c.1 h1 j (List.mem_range.2 hj);simpa[gK,or_assoc]using h2
theorem a1u(h:qK d=true):mentions k d=false:=by cases d<;>first|rfl|cases h
theorem c2w(k:Nat)(v:Value):mentions k (ofConst v)=false:=by
 unfold ofConst;split
 .split<;>rfl
 .split<;>rfl
theorem qV(h:dG k st=true):(∀v∈st.tmps,mentions k v=false)/\(∀p∈st.H,p.1≠k/\vU k p.2=true)/\(∀c∈st.own,∀l∈c.2,l.a0G k=false):=by unfold dG at h;simp only[g2Z,g3c,bne_iff_ne,ne_eq,g3v]at h;exact⟨h.1.1,h.1.2,h.2⟩
theorem a5j(h1:∀v∈st.tmps,mentions k v=false)(h2:∀p∈st.H,p.1≠k/\vU k p.2=true)(h3:∀c∈st.own,∀l∈c.2,l.a0G k=false):dG k st=true:=by unfold dG;simp only[g2Z,g3c,bne_iff_ne,ne_eq,g3v];exact⟨⟨h1,h2⟩,h3⟩
theorem xS(h:dG k st=true)(x:Operand):mentions k (st.eval G x)=false:=by
 cases x with
 |tmp t=>
  simp only[St.eval,List.getD];cases ht:st.tmps[t]? with
  |none=>rfl
  |some v=>exact(qV h).1 v (g3e ht)
 |const v=>exact c2w k v
 |global g=>simp only[St.eval];split<;>rfl
 |func f=>rfl
theorem a6S{k:Nat}{o:bH}:∀{H:List (Nat×bH)},getKey k H=some o->(k,o)∈H
 |[],h=>by simp[getKey]at h
 |(k',o')::r,h=>by
  unfold getKey at h;split at h
  .rename_i he;cases h;subst he;exact .head _
  .exact .tail _ (a6S h)
theorem a1v(h:dG k st=true):getKey k st.H=none:=by
 cases hk:getKey k st.H with
 |none=>rfl
 |some o=>exact absurd rfl ((qV h).2.1 _ (a6S hk)).1
variable{cs z:List DV}
theorem c5p{k':Nat}(h:dG k st=true)(hk:getKey k' st.H=some (.cells cs)):∀c∈cs,mentions k c=false:=λc hc=>by have:=((qV h).2.1 _ (a6S hk)).2;simp only[vU,g3c,g3v]at this;exact this c hc
variable{t:TypeId}
theorem c9e{y:DV}(hc:∀c∈cs,mentions k c=false)(h:b3U P t cs=some y):mentions k y=false:=by
 unfold b3U at h;split at h
 .split at h
  .split at h
   .rcases b3X h with⟨ds,_,rfl⟩|⟨_,rfl⟩
    .rfl
    .exact a6f λc zM=>hc c (g4a zM)
   .cases h
  .exact hc y (List.mem_of_head? h)
 .cases h
where
 a6f {k:Nat}:∀{cs:List DV},(∀c∈cs,mentions k c=false)->pP k cs=false
  |[],_=>rfl
  |c::r,h=>by simp only[pP,h c (.head _),a6f λx hx=>h x (.tail _ hx),Bool.or_false]
theorem a6T{k:Nat}:∀{cs:List DV},(∀c∈cs,mentions k c=false)->pP k cs=false
 |[],_=>rfl
 |c::r,h=>by simp only[pP,h c (.head _),a6T λx hx=>h x (.tail _ hx),Bool.or_false]
theorem b4d(h:mentions k d=false)(hc:xD d=some cs):∀c∈cs,mentions k c=false:=by
 cases d with
 |d y=>cases hc;intro c hc;obtain⟨z,_,rfl⟩:=g3u.1 hc;rfl
 |ag xG=>obtain⟨_,rfl⟩:=b3d hc;intro c hc;obtain⟨i,hi⟩:=g3q hc;exact uC (by simpa[mentions]using h) i c hi
 |undef=>cases hc
 |it _=>cases hc
 |cY _=>cases hc
 |a0E _=>cases hc
 |_=>cases hc;intro c hc;simp only[g3g]at hc;subst hc;exact h
theorem b4e{k:Nat}(h:dG k st=true):∀{l:List (Nat×Operand)}{ps:List (Nat×List DV)},a0W G st l=some ps->∀p∈ps,∀c∈p.2,mentions k c=false
 |[],ps,hp=>by simp[a0W]at hp;subst hp;simp
 |(i,x)::l,ps,hp=>by
  simp only[a0W]at hp;split at hp
  .rename_i y ds hy hds;simp at hp;subst hp;intro p hpm;rcases g3w.1 hpm with rfl|hpm
   .exact b4d (xS h x) hy
   .exact b4e h hds p hpm
  .cases hp
theorem c0E{ys:List DV}{off:Nat}(h1:∀c∈cs,mentions k c=false)(h2:∀c∈ys,mentions k c=false):∀c∈overwrite cs off ys,mentions k c=false:=λc hc=>by
 unfold overwrite at hc;simp only[g3z]at hc;rcases hc with(hc|hc)|hc
 .exact h1 c (g4a hc)
 .exact h2 c hc
 .exact h1 c (List.mem_of_mem_drop hc)
theorem b6p{k:Nat}{t:TypeId}:∀{ps:List (Nat×List DV)}{z r:List DV},(∀c∈z,mentions k c=false)->(∀p∈ps,∀c∈p.2,mentions k c=false)->b1h P t z ps=some r->∀c∈r,mentions k c=false
 |[],z,r,hz,_,h=>by simp[b1h]at h;subst h;exact hz
 |(i,v)::ps,z,r,hz,hp,h=>by
  simp only[b1h]at h;split at h
  .cases h
  .split at h
   .exact b6p (c0E hz (hp _ (.head _))) (λp hpm=>hp p (.tail _ hpm)) h
   .cases h
theorem c5q(k:Nat)(v:Value):mentions k (cellOf v)=false:=by unfold cellOf;split<;>rfl
theorem c9f(k:Nat)(v:Value):mentions k (a2W t v)=false:=by
 unfold a2W;split
 .rfl
 .split<;>rfl
theorem c9g(h:c4R P t=some z):∀c∈z,mentions k c=false:=by
 unfold c4R at h;obtain⟨v,_,h2⟩:=g3n.1 h;split at h2
 .cases h2;intro c hc;obtain⟨y,_,rfl⟩:=g3u.1 hc;exact c5q k y
 .cases h2
theorem c9h(h:c4Q P t=some z):∀c∈z,mentions k c=false:=by unfold c4Q at h;obtain⟨v,_,rfl⟩:=g2Y.1 h;intro c hc;obtain⟨y,_,rfl⟩:=g3u.1 hc;exact c9f k y
theorem c5r(hq:dW o.op=true)(hf:dG k st=true)(h:pB P G o st=some out):mentions k out.v=false:=by
 obtain⟨dst,op,ty,pos,after,guard⟩:=o;have he:∀x:Operand,mentions k (st.eval G x)=false:=xS hf;cases op<;>simp only[dW]at hq<;>try cases hq
 case move x=>simp only[pB,a4p,g3f]at h;subst h;exact he x
 case assign x=>simp only[pB,a4p,g3f]at h;subst h;exact he x
 case pick c a b=>
  simp only[pB,b5Z]at h;split at h
  .simp only[g3f]at h;subst h;simp only;split
   .exact he a
   .exact he b
  .cases h
 case build t ps=>
  simp only[pB,a9V]at h;split at h
  .split at h
   .obtain⟨c,_,rfl⟩:=g2Y.1 h;rfl
   .unfold a8l at h;split at h
    .rename_i z qs hz hps;obtain⟨cs,sN,rfl⟩:=g2Y.1 h;exact a6T (b6p (c9g hz) (b4e hf hps) sN)
    .cases h
  .cases h
 case buildSlice t n ps=>
  simp only[pB,uR]at h;split at h
  .split at h
   .simp only[g3f]at h;subst h;rfl
   .cases h
  .cases h
 case load t x=>
  simp only[pB,b3V]at h;split at h
  .split at h
   .rename_i cs hk;obtain⟨y,hy,rfl⟩:=g2Y.1 h;exact c9e (λc hc=>c5p hf hk c (List.mem_of_mem_drop hc)) hy
   .cases h
  .obtain⟨y,_,rfl⟩:=g2Y.1 h;rfl
  .cases h
 case nilCheck x=>have:=he x;simp only[pB,xR]at h;split at h<;>first|(cases h;done)|(rename_i hx;rw[hx]at this;simp only[g3f]at h;subst h;exact this)
 case binOp op t x y u=>
  simp only[pB,b6a,a2a,c8K]at h;split at h
  .split at h<;>first|(cases h;done)|(simp only[g3f]at h;subst h;simp only;first|rfl|(split<;>rfl))
  .split at h
   .obtain⟨c,_,rfl⟩:=g2Y.1 h;rfl
   .cases h
 case unOp op t x=>
  simp only[pB,vUn]at h;split at h
  .obtain⟨c,_,rfl⟩:=g2Y.1 h;rfl
  .cases h
 case convert src dst x=>
  simp only[pB,b6b]at h;split at h
  .obtain⟨c,_,rfl⟩:=g2Y.1 h;rfl
  .cases h
 case extract x i=>
  simp only[pB,a2b]at h;split at h
  .obtain⟨c,_,rfl⟩:=g2Y.1 h;rfl
  .cases h
 case field t x i=>
  simp only[pB,a9W]at h;split at h
  .obtain⟨c,_,rfl⟩:=g2Y.1 h;rfl
  .cases h
 case index t x i=>
  simp only[pB,a9X]at h;split at h
  .obtain⟨j,_,h⟩:=g3n.1 h;obtain⟨c,_,rfl⟩:=g2Y.1 h;rfl
  .obtain⟨j,_,h⟩:=g3n.1 h;obtain⟨c,_,rfl⟩:=g2Y.1 h;rfl
  .cases h
 case indexAddr t x i=>
  have hx:=he x;simp only[pB,uS]at h;split at h
  .obtain⟨j,_,h⟩:=g3n.1 h;obtain⟨c,_,h⟩:=g3n.1 h;split at h
   .simp only[g3f]at h;subst h;rfl
   .cases h
  .rename_i hxe _;split at h
   .cases h
   .obtain⟨j,_,rfl⟩:=g2Y.1 h;rw[hxe]at hx;exact hx
  .split at h
   .cases h
   .obtain⟨j,_,rfl⟩:=g2Y.1 h;rfl
  .cases h
 case fieldAddr t x i=>
  have hx:=he x;simp only[pB,uT]at h;split at h
  .split at h
   .cases h
   .split at h
    .rename_i hxe;simp only[g3f]at h;subst h;rw[hxe]at hx;exact hx
    .simp only[g3f]at h;subst h;rfl
    .cases h
  .cases h
 case slice t x lo hi mx=>
  simp only[pB,a9Y]at h;split at h
  .obtain⟨j,_,h⟩:=g3n.1 h;obtain⟨c,_,rfl⟩:=g2Y.1 h;rfl
  .split at h
   .obtain⟨j,_,h⟩:=g3n.1 h;obtain⟨c,_,rfl⟩:=g2Y.1 h;rfl
   .cases h
  .split at h
   .obtain⟨j,_,h⟩:=g3n.1 h;obtain⟨c,_,rfl⟩:=g2Y.1 h;rfl
   .cases h
  .split at h
   .simp only[g3f]at h;subst h;rfl
   .cases h
  .split at h
   .simp only[g3f]at h;subst h;rfl
   .cases h
  .cases h
 case call c=>
  obtain⟨callee,args,ts⟩:=c;cases callee with
  |value f=>simp[pB]at h
  |invoke r m=>simp at hq
  |builtin b=>
   simp only[pB,uU]at h;split at h
   .simp only[d2D]at h;split at h
    .simp only[g3f]at h;subst h;rfl
    .simp only[g3f]at h;subst h;rfl
    .simp only[g3f]at h;subst h;rfl
    .cases h
   .simp at hq
   .simp only[d2E]at h;split at h
    .simp only[g3f]at h;subst h;rfl
    .cases h
   .simp only[d2F]at h;split at h
    .simp only[g3f]at h;subst h;rfl
    .cases h
   .cases h
theorem cU{v:DV}{act:OA}(h:dG k st=true)(hv:mentions k v=false):dG k (finish st dst v act)=true:=by
 obtain⟨h1,h2,h3⟩:=qV h;cases dst with
 |none=>exact h
 |some d=>
  refine a5j (λu hu=>?_) h2 (λc hc l hl=>?_)
  .rcases List.mem_or_eq_of_mem_set hu with hu|rfl
   .exact h1 u hu
   .exact hv
  .have drop:∀c∈dF (.t d) st.own,∀l∈c.2,l.a0G k=false:=λc hc l hl=>by obtain⟨c0,zO,rfl⟩:=g3u.1 hc;exact h3 c0 zO l (List.mem_filter.1 hl).1
   simp only[finish]at hc;cases act with
   |no=>exact drop c hc l hl
   |al l0=>
    simp only[gH]at hc;split at hc
    .exact h3 c hc l hl
    .unfold addAlias at hc;obtain⟨c0,zO,rfl⟩:=g3u.1 hc;split at hl
     .rcases g3w.1 hl with rfl|hl
      .rfl
      .exact drop c0 zO l hl
     .exact drop c0 zO l hl
   |fresh e=>
    simp only[gH]at hc;rcases g3w.1 hc with rfl|hc
    .simp only[g3g]at hl;subst hl;rfl
    .exact drop c hc l hl
theorem QY.free{act:OA}(hq:dW o.op=true)(h:QY P G all o d act st)(hf:dG k st=true):mentions k d=false:=by
 rcases h with⟨_,⟨f,ds,own,_,_,_,hk,_⟩|⟨_,_,ho⟩|⟨_,f,g2X,ks,_,_,_,_,_,hk,_⟩⟩|⟨_,rfl,_⟩
 .exact a1u hk
 .exact c5r hq hf ho
 .exact a1u hk
 .rfl
theorem gY(h:(isApp o||gP o)=true):rR o=true:=by unfold rR;rw[h];rfl
theorem kL(h:rR o=true):kT G o st=none/\dY G o st=none/\dW o.op=false/\a5i o=false:=by
 obtain⟨dst,op,ty,pos,after,guard⟩:=o;cases op with
 |call c=>
  obtain⟨callee,args,ts⟩:=c;cases callee with
  |builtin b=>cases b<;>first|exact⟨rfl,rfl,rfl,rfl⟩|(simp[rR,isApp,gP,b5i]at h)
  |_=>simp[rR,isApp,gP,b5i]at h
 |alloc e=>exact⟨rfl,rfl,rfl,rfl⟩
 |store _ _ _=>exact⟨rfl,rfl,rfl,rfl⟩
 |_=>simp[rR,isApp,gP,b5i]at h
def Eff(P:Program)(G:GT)(all:Array Oper)(o:Oper)(st s:St):Prop:=
 (dW o.op=true/\∃d act,QY P G all o d act st/\s=finish st o.dst d (a8W all o act))\/
 (rR o=true/\((gB o all st.tmps=some true/\∃out,pB P G o st=some out/\s=finish out.st o.dst out.v out.act)\/(gB o all st.tmps=some false/\s=finish st o.dst (.cY []) .no)))
theorem eO(h:(dW o.op=true/\pH all o=false)\/rR o=true):qN P G true all o K st↔∃s,Eff P G all o st s/\K s:=by
 rcases h with⟨hq,hal⟩|hs
 .rw[c9d hq hal];constructor
  .rintro⟨d,act,h1,h2⟩;exact⟨_,.inl ⟨hq,d,act,h1,rfl⟩,h2⟩
  .rintro⟨s,⟨_,d,act,h1,rfl⟩|⟨hs,_⟩,h2⟩
   .exact⟨d,act,h1,h2⟩
   .rw[(kL (G:=G) (st:=st) hs).2.2.1]at hq;cases hq
 .obtain⟨h1,h2,h3,_⟩:=kL (G:=G) (st:=st) hs;have a0Y:∀d act,b1q true all o d act=act:=λd act=>by simp[b1q,h3]
  unfold qN;rw[h1,h2];simp only;constructor
  .intro h;split at h
   .rename_i hw;split at h
    .rename_i out ho;rw[a0Y]at h;exact⟨_,.inr ⟨hs,.inl ⟨hw,out,ho,rfl⟩⟩,h⟩
    .cases h
   .rename_i hw;exact⟨_,.inr ⟨hs,.inr ⟨hw,rfl⟩⟩,h⟩
   .cases h
  .rintro⟨s,⟨hq,_⟩|⟨_,⟨hw,out,ho,rfl⟩|⟨hw,rfl⟩⟩,hk⟩
   .rw[h3]at hq;cases hq
   .rw[hw];simp only;rw[ho];simp only;rw[a0Y];exact hk
   .rw[hw];exact hk
theorem gL{x y:Option Tmp}{a:OA}(h:∀t,x=some t->y≠some t)(ha:a=.no\/∃k,a=.fresh k):finish (finish st x d .no) y e a=finish (finish st y e a) x d .no:=by
 cases x with
 |none=>cases y<;>rfl
 |some t=>
  cases y with
  |none=>rfl
  |some u=>
   have gK:t≠u:=λhe=>h t rfl (he▸rfl);simp only[finish];rw[List.set_comm _ _ gK];congr 1;rcases ha with rfl|⟨k,rfl⟩
   .exact sW _
   .exact(b0h (Ne.symm gK)).symm
theorem b1s{l x:Loc}(h:l≠x):∀own:List (TypeId×List Loc),jV l (dF x own)=(jV l own).map λp=>(p.1,dF x p.2)
 |[]=>rfl
 |c::r=>by
  have hc:=a9m h c.2;have ih:=b1s h r;unfold dF at ih|-;simp only[List.map_cons,jV,hc];split
  .rfl
  .rw[ih];cases jV l r<;>rfl
theorem b4f{l:Loc}:∀{own:List (TypeId×List Loc)}{e:TypeId}{gI:List (TypeId×List Loc)},jV l own=some (e,gI)->∀c∈gI,c∈own
 |c::r,e,gI,h,x,hx=>by
  unfold jV at h;split at h
  .cases h;exact .tail _ hx
  .obtain⟨p,hp,he⟩:=g2Y.1 h;cases he;rcases g3w.1 hx with rfl|hx
   .exact .head _
   .exact .tail _ (b4f hp x hx)
theorem a0L(h:isApp o=true)(ho:pB P G o st=some out):(∃e,out.act=.fresh e)/\(∃es,out.v=.d (.sl es))/\∃gI,out.st={st with own:=gI}/\∀c∈gI,c∈st.own:=by
 obtain⟨dst,op,ty,pos,after,guard⟩:=o;cases op with
 |call c=>
  obtain⟨callee,args,ts⟩:=c;cases callee with
  |builtin b=>
   cases b<;>simp[isApp]at h;simp only[pB,uU]at ho;split at ho
   .rename_i h1 _ _;cases h1
   .unfold a5a at ho;split at ho
    .split at ho
     .split at ho
      .split at ho
       .simp only[g3f]at ho;subst ho;exact⟨⟨_,rfl⟩,⟨_,rfl⟩,st.own,rfl,λ_ h=>h⟩
       .cases ho
      .split at ho
       .rename_i e' gI ht;split at ho
        .simp only[g3f]at ho;subst ho;exact⟨⟨_,rfl⟩,⟨_,rfl⟩,gI,rfl,b4f ht⟩
        .cases ho
       .cases ho
      .cases ho
     .cases ho
    .cases ho
   .rename_i h1 _;cases h1
   .rename_i h1 _;cases h1
   .cases ho
  |_=>simp[isApp]at h
 |_=>simp[isApp]at h
theorem a0a(h:isApp o=true)(hl:∀t,dst=some t->t ∉ o.looksAt all):pB P G o (finish st dst d .no)=(pB P G o st).map λout=>⟨out.v,out.act,finish out.st dst d .no⟩:=by
 have he:=b0f (G:=G) (st:=st) (d:=d) (act:=.no) hl;obtain⟨f5Y,op,ty,pos,after,guard⟩:=o;cases op with
 |call c=>
  obtain⟨callee,args,ts⟩:=c;cases callee with
  |builtin b=>
   cases b<;>simp[isApp]at h;have mem:∀{x:Operand}{l:List Operand},args.toList=l->x∈l->(finish st dst d .no).eval G x=st.eval G x:=λhl hx=>he _ (by simp only[Op.operands,Call.operands];rw[<-g3X];simp[hl,hx]);simp only[pB,uU];split
   .rename_i h1 _ _;cases h1
   .rename_i s x t' t'' _ heq _;have hs:=mem heq (x:=s) (by simp);have hx:=mem heq (x:=x) (by simp);simp only[a5a,hs,hx];split
    .split
     .split
      .split
       .rfl
       .rfl
      .rename_i xs i _;cases dst with
       |none=>
        simp only[finish];split
        .split
         .rfl
         .rfl
        .rfl
       |some u=>
        have gK:(Loc.t i)≠ .t u:=λe=>hl u rfl (by cases e;exact List.mem_append_left _ (g3E.2 ⟨.tmp i,by simp[Op.operands,Call.operands,heq],rfl⟩))
        simp only[finish,gH,b1s gK];cases jV (.t i) st.own with
        |none=>rfl
        |some p=>
         obtain⟨e',gI⟩:=p;simp only[Option.map_some];split
         .rfl
         .rfl
      .rfl
     .rfl
    .rfl
   .rename_i h1 _;cases h1
   .rename_i h1 _;cases h1
   .rfl
  |_=>simp[isApp]at h
 |_=>simp[isApp]at h
variable{H:List (Nat×bH)}
theorem c5s(h:isApp o=true):pB P G o {st with H:=H}=(pB P G o st).map λout=>⟨out.v,out.act,{out.st with H:=H}⟩:=by
 obtain⟨f5Y,op,ty,pos,after,guard⟩:=o;have he:∀x:Operand,({st with H:=H}:St).eval G x=st.eval G x:=λx=>by cases x<;>rfl
 cases op with
 |call c=>
  obtain⟨callee,args,ts⟩:=c;cases callee with
  |builtin b=>
   cases b<;>simp[isApp]at h;simp only[pB,uU];split
   .rename_i h1 _ _;cases h1
   .simp only[a5a,he];split
    .split
     .split
      .split<;>rfl
      .cases jV _ st.own with
       |none=>rfl
       |some p=>obtain⟨e',gI⟩:=p;simp only;split<;>rfl
      .rfl
     .rfl
    .rfl
   .rename_i h1 _;cases h1
   .rename_i h1 _;cases h1
   .rfl
  |_=>simp[isApp]at h
 |_=>simp[isApp]at h
theorem d2Y(h:∀c∈cs,mentions k c=false):vU k (b5X cs)=true:=by
 unfold b5X;split
 .rfl
 .simp only[vU,g3c,g3v];exact h
theorem uY(h:gP o=true):∃d,o.dst=some d/\((∃cs:bH,(∀k,vU k cs=true)/\∀st:St,pB P G o st=some ⟨.ptr d 0,.no,jQ st d cs⟩)\/∀st:St,pB P G o st=none):=by
 obtain⟨dst,op,ty,pos,after,guard⟩:=o;cases op with
 |alloc e=>
  cases dst with
  |none=>simp[gP]at h
  |some d=>
   refine⟨d,rfl,?_⟩;simp only[pB,b2Z];cases hz:mF P e with
   |some cs=>
    simp only;by_cases hd:d<100000
    .simp only[hd,if_true];exact .inl ⟨.cells (cs.map .d),λk=>by simp only[vU,g3c,g3v];intro c hc;obtain⟨y,_,rfl⟩:=g3u.1 hc;rfl,λ_=>rfl⟩
    .simp only[hd,if_false];exact .inr λ_=>trivial
   |none=>
    simp only;cases hc:c4Q P e with
    |some cs=>
     simp only;by_cases hd:d<100000
     .simp only[hd,if_true];exact .inl ⟨b5X cs,λk=>d2Y (c9h hc),λ_=>rfl⟩
     .simp only[hd,if_false];exact .inr λ_=>trivial
    |none=>exact .inr λ_=>rfl
 |_=>simp[gP]at h
theorem a6U{α:Type}{f:α->α}:∀{l:List α},(∀x∈l,f x=x)->l.map f=l
 |[],_=>rfl
 |x::r,h=>by rw[List.map_cons,h x (.head _),a6U λy hy=>h y (.tail _ hy)]
theorem bV{o:bH}(h:dG k st=true):jQ st k o={st with H:=cE k o st.H}:=by
 obtain⟨h1,h2,h3⟩:=qV h;unfold jQ;have e1:st.tmps.map (oL k)=st.tmps:=a6U λv hv=>by unfold oL;rw[h1 v hv,if_neg (by simp)]
 have e2:(st.H.map λp=>(p.1,a2V k p.2))=st.H:=a6U λp hp=>by
  obtain⟨a,b⟩:=p;have:=(h2 _ hp).2;cases b with
  |cells cs=>simp only[vU,g3c,g3v]at this;simp only[a2V];rw[a6U λv hv=>by unfold oL;rw[this v hv,if_neg (by simp)]]
  |_=>rfl
 have e3:dropKey k st.own=st.own:=a6U λc hc=>by obtain⟨a,b⟩:=c;simp only;rw[List.filter_eq_self.2 λl hl=>by simp[h3 _ hc l hl]]
 rw[e1,e2,e3]
theorem b4g{k:Nat}{o:bH}:∀{H:List (Nat×bH)}{p:Nat×bH},p∈a1Z k o H->p=(k,o)\/p∈H
 |(k',o')::r,p,h=>by
  unfold a1Z at h;split at h
  .rcases g3w.1 h with h|h
   .exact .inl h
   .exact .inr (.tail _ h)
  .rcases g3w.1 h with h|h
   .exact .inr (h▸ .head _)
   .rcases b4g h with h|h
    .exact .inl h
    .exact .inr (.tail _ h)
theorem b4h{k:Nat}{o:bH}:∀{H:List (Nat×bH)}{p:Nat×bH},p∈oQ k o H->p=(k,o)\/p∈H
 |[],p,h=>by simp[oQ]at h;exact .inl h
 |(k',o')::r,p,h=>by
  unfold oQ at h;split at h
  .rcases g3w.1 h with h|h
   .exact .inl h
   .exact .inr h
  .rcases g3w.1 h with h|h
   .exact .inr (h▸ .head _)
   .rcases b4h h with h|h
    .exact .inl h
    .exact .inr (.tail _ h)
theorem b4i{o:bH}{p:Nat×bH}(h:p∈cE k o H):p=(k,o)\/p∈H:=by
 unfold cE at h;split at h
 .exact b4g h
 .exact b4h h
theorem a6V{d:Nat}{cs:bH}(hd:d≠k)(hc:vU k cs=true)(h:dG k st=true):dG k (jQ st d cs)=true:=by
 obtain⟨h1,h2,h3⟩:=qV h;have kill:∀v:DV,mentions k v=false->mentions k (oL d v)=false:=λv hv=>by
  unfold oL;split
  .rfl
  .exact hv
 refine a5j (λv hv=>?_) (λp hp=>?_) λc hcc l hl=>?_
 .obtain⟨u,hu,rfl⟩:=g3u.1 hv;exact kill u (h1 u hu)
 .rcases b4i hp with rfl|hp
  .exact⟨hd,hc⟩
  .obtain⟨q,hq,rfl⟩:=g3u.1 hp;obtain⟨q1,q2⟩:=h2 q hq;refine⟨q1,?_⟩;cases hq2:q.2 with
   |cells c0=>rw[hq2]at q2;simp only[vU,a2V,g3c,g3v]at q2|-;intro v hv;obtain⟨u,hu,rfl⟩:=g3u.1 hv;exact kill u (q2 u hu)
   |_=>rfl
 .obtain⟨c0,zO,rfl⟩:=g3u.1 hcc;exact h3 c0 zO l (List.mem_filter.1 hl).1
theorem c2x:dropKey k (dF x own)=dF x (dropKey k own):=by simp only[dropKey,dF,List.map_map];refine List.map_congr_left λc _=>?_;simp only[Function.comp,List.filter_filter,Bool.and_comm]
theorem b1t(h:b5i o=true):o.dst=none/\∃t a x,o.op=.store t a x:=by
 obtain⟨dst,op,ty,pos,after,guard⟩:=o;cases op with
 |store t a x=>
  cases dst with
  |none=>exact⟨rfl,t,a,x,rfl⟩
  |some d=>simp[b5i]at h
 |_=>simp[b5i]at h
theorem d5R(h:b5i o=true)(ho:pB P G o st=some out):out.v=.cY []/\out.act=.no/\out.st.tmps=st.tmps:=by
 obtain⟨_,t,a,x,qA⟩:=b1t h;simp only[pB,qA,tY]at ho;split at ho
 .split at ho
  .split at ho
   .simp only[g3f]at ho;subst ho;exact⟨rfl,rfl,rfl⟩
   .cases ho
  .cases ho
 .cases ho
theorem c0F(h:b5i o=true)(hl:∀t,dst=some t->t ∉ o.looksAt all):pB P G o (finish st dst d .no)=(pB P G o st).map λout=>⟨out.v,out.act,finish out.st dst d .no⟩:=by
 have he:=b0f (G:=G) (st:=st) (d:=d) (act:=.no) hl;obtain⟨_,t,a,x,qA⟩:=b1t h;have ha:=he a (by simp[qA,Op.operands]);have hx:=he x (by simp[qA,Op.operands]);have hxl:∀u s,dst=some u->xE x=.al (.t s)->s≠u:=λu s hu hs e=>by
  cases x with
  |tmp j=>simp only[xE,OA.al.injEq,Loc.t.injEq]at hs;exact hl u hu (by rw[<-e, <- hs];exact List.mem_append_left _ (g3E.2 ⟨.tmp j,by simp[qA,Op.operands],rfl⟩))
  |_=>cases hs
 simp only[pB,qA,tY,ha,hx,a6R];split
 .rename_i k off ys _ _;split
  .split
   .simp only[Option.map_some,g3f,Out.mk.injEq,true_and];cases dst with
    |none=>rfl
    |some u=>
     simp only[finish,St.mk.injEq,true_and];split
     .rcases a3e (st.eval G x) (xE x)with h1|h1
      .rw[h1];exact(sW _)
      .rw[h1];cases hx':xE x with
       |no=>exact(sW _)
       |al l=>
        cases x with
        |tmp j=>simp only[xE,OA.al.injEq]at hx';subst hx';have hju:(Loc.t j)≠ .t u:=λe=>hxl u j rfl rfl (by cases e;rfl);simp only[gH];rw[if_neg (by simp),if_neg (by simp),sW,b6n hju (by simp)]
        |_=>cases hx'
       |fresh e=>cases x<;>cases hx'
     .exact c2x
   .rfl
  .rfl
 .rfl
theorem d5S(hq:b0e o.op=true)(he:∀x∈o.op.operands,st'.eval G x=st.eval G x):pB P G o st'=(pB P G o st).map λout=>⟨out.v,out.act,st'⟩:=by
 obtain⟨dst,op,ty,pos,after,guard⟩:=o;have dB:∀(x:Option Operand)(d n:Nat),(∀y,x=some y->st'.eval G y=st.eval G y)->jR G st' x d n=jR G st x d n:=λx d n hx=>by
  cases x with
  |none=>rfl
  |some y=>simp only[jR,hx y rfl]
 cases op<;>simp only[b0e]at hq<;>try cases hq
 all_goals simp only[Op.operands]at he
 case move x=>simp[pB,a4p,he]
 case assign x=>simp[pB,a4p,he]
 case pick c a b=>simp only[pB,b5Z,he c (by simp),he a (by simp),he b (by simp)];split<;>rfl
 case nilCheck x=>simp only[pB,xR,he x (by simp)];split<;>rfl
 case binOp op t x y u=>
  simp only[pB,b6a,a2a,c8K,he x (by simp),he y (by simp)];split
  .split<;>rfl
  .split
   .simp[g3A,Function.comp_def]
   .rfl
 case unOp op t x=>
  simp only[pB,vUn,he x (by simp)];split
  .simp[g3A,Function.comp_def]
  .rfl
 case convert src dst x=>
  simp only[pB,b6b,he x (by simp)];split
  .simp[g3A,Function.comp_def]
  .rfl
 case extract x i=>
  simp only[pB,a2b,he x (by simp)];split
  .simp[g3A,Function.comp_def]
  .rfl
 case field t x i=>
  simp only[pB,a9W,he x (by simp)];split
  .simp[g3A,Function.comp_def]
  .rfl
 case index t x i=>
  simp only[pB,a9X,he x (by simp),he i (by simp)];split
  .simp[g3U,g3A,Function.comp_def]
  .simp[g3U,g3A,Function.comp_def]
  .rfl
 case indexAddr t x i=>
  simp only[pB,uS,he x (by simp),he i (by simp)];split
  .rw[g3U];congr 1;funext j;simp only[Function.comp];rw[g3U];congr 1;funext cs;simp only[Function.comp];split<;>rfl
  .split
   .rfl
   .simp[g3A,Function.comp_def]
  .split
   .rfl
   .simp[g3A,Function.comp_def]
  .rfl
 case fieldAddr t x i=>
  simp only[pB,uT,he x (by simp)];split
  .split
   .rfl
   .split<;>rfl
  .rfl
 case slice t x lo hi mx=>
  have rZ:∀y,lo=some y->st'.eval G y=st.eval G y:=λy hy=>he y (by simp[hy]);have hhi:∀y,hi=some y->st'.eval G y=st.eval G y:=λy hy=>he y (by simp[hy]);have hmx:∀y,mx=some y->st'.eval G y=st.eval G y:=λy hy=>he y (by simp[hy]);simp only[pB,a9Y,he x (by simp),dB lo _ _ rZ,dB hi _ _ hhi];split
  .simp[g3U,g3A,Function.comp_def]
  .split
   .simp[g3U,g3A,Function.comp_def]
   .rfl
  .split
   .simp[g3U,g3A,Function.comp_def]
   .rfl
  .rw[dB (some _) _ _ λy hy=>hmx y hy];split<;>rfl
  .rw[dB (some _) _ _ λy hy=>hmx y hy];split<;>rfl
  .rfl
theorem qB(h:b0e o.op=true):dW o.op=true/\dY G o st=none/\kT G o st=none:=by obtain⟨dst,op,ty,pos,after,guard⟩:=o;cases op<;>simp only[b0e]at h<;>first|exact⟨rfl,rfl,rfl⟩|cases h
theorem QY.pure(h:QY P G all o d ac st)(hq:b0e o.op=true)(ht:st'.tmps=st.tmps):QY P G all o d ac st':=by
 have he:∀x:Operand,st'.eval G x=st.eval G x:=λx=>by cases x<;>simp[St.eval,ht]
 obtain⟨_,h1,h2⟩:=qB (G:=G) (st:=st) hq;obtain⟨_,h1',h2'⟩:=qB (G:=G) (st:=st') hq;rcases h with⟨hw,⟨f,ds,own,hc,_⟩|⟨hc,zN,ho⟩|⟨hc,f,g2X,ks,zN,_⟩⟩|⟨hw,h3⟩
 .rw[h2]at hc;cases hc
 .exact .inl ⟨by rw[ht];exact hw,.inr (.inl ⟨h2',h1',by rw[d5S hq (λx _=>he x),ho];rfl⟩)⟩
 .rw[h1]at zN;cases zN
 .exact .inr ⟨by rw[ht];exact hw,h3⟩
theorem b6r{ad x:Operand}(ho:o.op=.store t ad x)(hf:dG k st=true)(h:pB P G o st=some out):dG k out.st=true/\mentions k out.v=false:=by
 obtain⟨h1,h2,h3⟩:=qV hf;simp only[pB,ho,tY]at h;split at h
 .rename_i key off ys ha hx;have gK:key≠k:=λe=>by have:=xS (G:=G) hf ad;rw[ha]at this;simp only[mentions,beq_eq_false_iff_ne,ne_eq]at this;exact this e
  split at h
  .rename_i cs hk;split at h
   .simp only[g3f]at h;subst h;refine⟨a5j h1 (λp hp=>?_) λc hc l hl=>?_,rfl⟩
    .rcases b4i hp with rfl|hp
     .refine⟨gK,?_⟩;simp only[vU,g3c,g3v];exact c0E (λc hc=>c5p hf hk c hc) (b4d (xS hf x) hx)
     .exact h2 p hp
    .simp only at hc;have drop:∀c∈dF (.c key off) st.own,∀l∈c.2,l.a0G k=false:=λc hc l hl=>by obtain⟨c0,zO,rfl⟩:=g3u.1 hc;exact h3 c0 zO l (List.mem_filter.1 hl).1
     have yK:(Loc.c key off).a0G k=false:=by simp[Loc.a0G,gK]
     split at hc
     .generalize uQ (st.eval G x) (xE x)=act at hc;cases act with
      |no=>exact drop c hc l hl
      |al l0=>
       simp only[gH]at hc;split at hc
       .exact h3 c hc l hl
       .unfold addAlias at hc;obtain⟨c0,zO,rfl⟩:=g3u.1 hc;split at hl
        .rcases g3w.1 hl with rfl|hl
         .exact yK
         .exact drop c0 zO l hl
        .exact drop c0 zO l hl
      |fresh e=>
       simp only[gH]at hc;rcases g3w.1 hc with rfl|hc
       .simp only[g3g]at hl;subst hl;exact yK
       .exact drop c hc l hl
     .obtain⟨c0,zO,rfl⟩:=g3u.1 hc;exact h3 c0 zO l (List.mem_filter.1 hl).1
   .cases h
  .cases h
 .cases h
theorem wT(h:Eff P G all o st s)(hf:dG k st=true)(hn:gP o=true->o.dst≠some k):dG k s=true:=by
 rcases h with⟨hq,d,act,hy,rfl⟩|⟨hs,⟨hw,out,ho,rfl⟩|⟨hw,rfl⟩⟩
 .exact cU hf (hy.free hq hf)
 .cases ha:isApp o with
  |true=>obtain⟨_,⟨es,hv⟩,gI,pZ,a2P⟩:=a0L ha ho;obtain⟨h1,h2,h3⟩:=qV hf;refine cU ?_ (by rw[hv];rfl);rw[pZ];exact a5j h1 h2 λc hc=>h3 c (a2P c hc)
  |false=>
   cases hs2:gP o with
   |true=>
    obtain⟨d,hd,⟨cs,sN,hv⟩|hv⟩:=uY (P:=P) (G:=G) hs2
    .rw[hv]at ho;cases ho;have hdk:d≠k:=λe=>hn hs2 (e▸hd);exact cU (a6V hdk (sN k) hf) (by simp[mentions,hdk])
    .rw[hv]at ho;cases ho
   |false=>
    have pZ:b5i o=true:=by simpa[rR,ha,hs2]using hs
    obtain⟨_,t,a,x,qA⟩:=b1t pZ;obtain⟨h1,h2⟩:=b6r qA hf ho;exact cU h1 h2
 .exact cU hf rfl
theorem a1Q(x:Operand):({st with H:=H}:St).eval G x=st.eval G x:=by cases x<;>rfl
theorem b4j(x:Operand):({st with own:=own}:St).eval G x=st.eval G x:=by cases x<;>rfl
theorem c0G(h:gP o=true):wG ops o=false:=by
 obtain⟨dst,op,ty,pos,after,guard⟩:=o;cases op with
 |alloc e=>cases guard<;>cases dst<;>rfl
 |_=>simp[gP]at h
theorem b1u{x:Oper}{s1 s12:St}(hap:x.apart ops y=true)(hp:sV ops x y=true)(fx:gP x=true->∀d,x.dst=some d->dG d st=true)(fy:gP y=true->∀d,y.dst=some d->dG d st=true)(h1:Eff P G ops x st s1)(h2:Eff P G ops y s1 s12):∃s2,Eff P G ops y st s2/\Eff P G ops x s2 s12:=by
 obtain⟨a1,a2,a3⟩:=Oper.apart_spec hap;have a2':∀t,y.dst=some t->x.dst≠some t:=λt ht he=>a2 t he ht;unfold sV at hp;simp only[g3l,g2Z,g3v]at hp;have noq:∀{o:Oper}{a:OA},wG ops o=false->a8W ops o a=.no:=λhn=>by unfold a8W;rw[hn];rfl
 rcases hp with((((((⟨⟨hqx,hqy⟩,hnn⟩|⟨⟨hqx,hsy⟩,hnx⟩)|⟨⟨⟨hsx,hqy⟩,hny⟩,hcy⟩)|⟨hqx,d1s⟩)|⟨⟨d1t,hqy⟩,hcy⟩)|⟨⟨hsx,hsy⟩,hnn⟩)|⟨⟨hpx,hnx⟩,hsy⟩)|⟨⟨hsx,hpy⟩,hny⟩
 ·
  rcases h1 with⟨_,d,ax,hx,rfl⟩|⟨hs,_⟩
  .rcases h2 with⟨_,e,ay,hy,rfl⟩|⟨hs,_⟩
   .have hy':=(QY.finish hqy a1).1 hy;refine⟨_,.inl ⟨hqy,e,ay,hy',rfl⟩,.inl ⟨hqx,d,ax,(QY.finish hqx a3).2 hx,?_⟩⟩;exact a0K a2 a1 a3 hnn hx.act hy'.act
   .rw[(kL (G:=G) (st:=st) hs).2.2.1]at hqy;cases hqy
  .rw[(kL (G:=G) (st:=st) hs).2.2.1]at hqx;cases hqx
 ·
  have a6t:(isApp y||gP y)=true:=by simp[hsy]
  rcases h1 with⟨_,d,ax,hx,rfl⟩|⟨hs,_⟩
  .rw[noq hnx]at h2;rcases h2 with⟨hq,_⟩|⟨_,⟨hw,out,ho,rfl⟩|⟨hw,rfl⟩⟩
   .rw[(kL (G:=G) (st:=st) (gY a6t)).2.2.1]at hq;cases hq
   .rw[bN a1]at hw;cases ha:isApp y with
    |true=>
     rw[a0a ha a1]at ho;obtain⟨f5Z,ho0,rfl⟩:=g2Y.1 ho;obtain⟨⟨e,a0Y⟩,_,gI,pZ,a2P⟩:=a0L ha ho0;refine⟨_,.inr ⟨gY a6t,.inl ⟨hw,f5Z,ho0,rfl⟩⟩,.inl ⟨hqx,d,ax,?_,?_⟩⟩
     .refine(QY.finish hqx a3).2 ?_;rw[pZ];refine QY.to hx hqx rfl (λz _=>b4j z) (λ_ _ _ _=>rfl) (λ_ _ _ h=>h) (λ_ ks _ uV=>?_);exact g3c.2 λc hc=>g3c.1 uV c (a2P c hc)
     .simp only;rw[noq hnx,a0Y,gL a2 (.inr ⟨e,rfl⟩)]
    |false=>
     have hny:gP y=true:=by simpa[ha]using a6t
     obtain⟨k,hk,⟨cs,sN,hv⟩|hv⟩:=uY (P:=P) (G:=G) hny
     .have hf:=fy hny k hk;have hfd:=hx.free hqx hf;have hf1:dG k (finish st x.dst d .no)=true:=cU hf hfd;rw[hv]at ho;cases ho;rw[bV hf1];refine⟨_,.inr ⟨gY a6t,.inl ⟨hw,_,hv st,rfl⟩⟩,.inl ⟨hqx,d,ax,?_,?_⟩⟩
      .refine(QY.finish hqx a3).2 ?_;simp only;rw[bV hf];refine QY.to hx hqx rfl (λz _=>a1Q z) (λz _ k' hm=>?_) (λ_ k' ob yK=>?_) (λ_ ks _ uV=>uV)
       .have:k≠k':=λe=>by subst e;rw[xS hf z]at hm;cases hm
        exact mW _ this _
       .have:k≠k':=λe=>by subst e;rw[a1v hf]at yK;cases yK
        rw[mW _ this];exact yK
      .simp only;rw[noq hnx,bV hf, <- gL a2 (.inl rfl)];congr 1;cases x.dst<;>rfl
     .rw[hv]at ho;cases ho
   .rw[bN a1]at hw;refine⟨_,.inr ⟨gY a6t,.inr ⟨hw,rfl⟩⟩,.inl ⟨hqx,d,ax,(QY.finish hqx a3).2 hx,?_⟩⟩;rw[noq hnx,gL a2 (.inl rfl)]
  .rw[(kL (G:=G) (st:=st) hs).2.2.1]at hqx;cases hqx
 ·
  have a6u:(isApp x||gP x)=true:=by simp[hsx]
  rcases h2 with⟨_,e,ay,hy,rfl⟩|⟨hs,_⟩
  .rcases h1 with⟨hq,_⟩|⟨_,⟨hw,out,ho,rfl⟩|⟨hw,rfl⟩⟩
   .rw[(kL (G:=G) (st:=st) (gY a6u)).2.2.1]at hq;cases hq
   .cases ha:isApp x with
    |true=>
     obtain⟨⟨k,a0Y⟩,_,gI,pZ,a2P⟩:=a0L ha ho;have hy':QY P G ops y e ay st:=by have h3:=(QY.finish hqy a1).1 hy;rw[pZ]at h3;exact h3.to hqy rfl (λz _=>(b4j z).symm) (λ_ _ _ _=>rfl) (λ_ _ _ h=>h) λhc=>by rw[hcy]at hc;cases hc
     refine⟨_,.inl ⟨hqy,e,ay,hy',rfl⟩,.inr ⟨gY a6u,.inl ⟨by rw[bN a3];exact hw,⟨out.v,out.act,finish out.st y.dst e .no⟩,?_,?_⟩⟩⟩
     .rw[noq hny,a0a ha a3,ho];rfl
     .simp only;rw[noq hny,a0Y,gL a2' (.inr ⟨k,rfl⟩)]
    |false=>
     have hnx:gP x=true:=by simpa[ha]using a6u
     obtain⟨k,hk,⟨cs,sN,hv⟩|hv⟩:=uY (P:=P) (G:=G) hnx
     .have hf:=fx hnx k hk;rw[hv]at ho;cases ho;have hy':QY P G ops y e ay st:=by
       have h3:=(QY.finish hqy a1).1 hy;simp only at h3;rw[bV hf]at h3;refine h3.to hqy rfl (λz _=>(a1Q z).symm) (λz _ k' hm=>?_) (λhc=>by rw[hcy]at hc;cases hc) λhc=>by rw[hcy]at hc;cases hc
       rw[a1Q]at hm;have:k≠k':=λe=>by subst e;rw[xS hf z]at hm;cases hm
       exact(mW _ this _).symm
      have hf2:dG k (finish st y.dst e .no)=true:=cU hf (hy'.free hqy hf);refine⟨_,.inl ⟨hqy,e,ay,hy',rfl⟩,.inr ⟨gY a6u,.inl ⟨by rw[bN a3];exact hw,_,hv _,?_⟩⟩⟩;simp only;rw[noq hny,bV hf,bV hf2,gL a2 (.inl rfl)];cases y.dst<;>rfl
     .rw[hv]at ho;cases ho
   .have hy':=(QY.finish hqy a1).1 hy;refine⟨_,.inl ⟨hqy,e,ay,hy',rfl⟩,.inr ⟨gY a6u,.inr ⟨by rw[bN a3];exact hw,?_⟩⟩⟩;rw[noq hny,gL a2' (.inl rfl)]
  .rw[(kL (G:=G) (st:=st) hs).2.2.1]at hqy;cases hqy
 ·
  have hss:rR y=true:=gY (by simp[d1s]);have f2a:wG ops y=false:=c0G d1s;rcases h1 with⟨_,d,ax,hx,rfl⟩|⟨hs,_⟩
  .rcases h2 with⟨hq,_⟩|⟨_,⟨hw,out,ho,rfl⟩|⟨hw,rfl⟩⟩
   .rw[(kL (G:=G) (st:=st) hss).2.2.1]at hq;cases hq
   .rw[bN a1]at hw;obtain⟨k,hk,⟨cs,sN,hv⟩|hv⟩:=uY (P:=P) (G:=G) d1s
    .have hf:=fy d1s k hk;have hfd:=hx.free hqx hf;have hf1:dG k (finish st x.dst d (a8W ops x ax))=true:=cU hf hfd;rw[hv]at ho;cases ho;rw[bV hf1];refine⟨_,.inr ⟨hss,.inl ⟨hw,_,hv st,rfl⟩⟩,.inl ⟨hqx,d,ax,?_,?_⟩⟩
     .refine(QY.finish hqx a3).2 ?_;simp only;rw[bV hf];refine QY.to hx hqx rfl (λz _=>a1Q z) (λz _ k' hm=>?_) (λ_ k' ob yK=>?_) (λ_ ks _ uV=>uV)
      .have:k≠k':=λe=>by subst e;rw[xS hf z]at hm;cases hm
       exact mW _ this _
      .have:k≠k':=λe=>by subst e;rw[a1v hf]at yK;cases yK
       rw[mW _ this];exact yK
     .simp only;rw[bV hf, <- a0K a2 a1 a3 (by rw[f2a,Bool.and_false]) hx.act (.inl rfl)];congr 1;cases x.dst<;>rfl
    .rw[hv]at ho;cases ho
   .rw[bN a1]at hw;refine⟨_,.inr ⟨hss,.inr ⟨hw,rfl⟩⟩,.inl ⟨hqx,d,ax,(QY.finish hqx a3).2 hx,?_⟩⟩;exact a0K a2 a1 a3 (by rw[f2a,Bool.and_false]) hx.act (.inl rfl)
  .rw[(kL (G:=G) (st:=st) hs).2.2.1]at hqx;cases hqx
 ·
  have hss:rR x=true:=gY (by simp[d1t]);have f2b:wG ops x=false:=c0G d1t;rcases h2 with⟨_,e,ay,hy,rfl⟩|⟨hs,_⟩
  .rcases h1 with⟨hq,_⟩|⟨_,⟨hw,out,ho,rfl⟩|⟨hw,rfl⟩⟩
   .rw[(kL (G:=G) (st:=st) hss).2.2.1]at hq;cases hq
   .obtain⟨k,hk,⟨cs,sN,hv⟩|hv⟩:=uY (P:=P) (G:=G) d1t
    .have hf:=fx d1t k hk;rw[hv]at ho;cases ho;have hy':QY P G ops y e ay st:=by
      have h3:=(QY.finish hqy a1).1 hy;simp only at h3;rw[bV hf]at h3;refine QY.to h3 hqy rfl (λz _=>(a1Q z).symm) (λz _ k' hm=>?_) (λhc=>by rw[hcy]at hc;cases hc) (λhc=>by rw[hcy]at hc;cases hc);rw[a1Q]at hm;have:k≠k':=λe=>by subst e;rw[xS hf z]at hm;cases hm
      exact(mW _ this _).symm
     have hf2:dG k (finish st y.dst e (a8W ops y ay))=true:=cU hf (hy'.free hqy hf);refine⟨_,.inl ⟨hqy,e,ay,hy',rfl⟩,.inr ⟨hss,.inl ⟨by rw[bN a3];exact hw,_,hv _,?_⟩⟩⟩;simp only;rw[bV hf,bV hf2,a0K a2 a1 a3 (by rw[f2b,Bool.false_and]) (.inl rfl) hy'.act];cases y.dst<;>rfl
    .rw[hv]at ho;cases ho
   .have hy':=(QY.finish hqy a1).1 hy;refine⟨_,.inl ⟨hqy,e,ay,hy',rfl⟩,.inr ⟨hss,.inr ⟨by rw[bN a3];exact hw,?_⟩⟩⟩;exact a0K a2 a1 a3 (by rw[f2b,Bool.false_and]) (.inl rfl) hy'.act
  .rw[(kL (G:=G) (st:=st) hs).2.2.1]at hqy;cases hqy
 ·
  have a6u:(isApp x||gP x)=true:=by simpa using hsx
  have a6t:(isApp y||gP y)=true:=by simpa using hsy
  have nq:∀{o:Oper},(isApp o||gP o)=true-> ¬dW o.op=true:=λh=>by rw[(kL (G:=G) (st:=st) (gY h)).2.2.1];simp
  have na:∀{o:Oper},gP o=true->isApp o=false:=λ{o} h=>by obtain⟨dst,op,ty,pos,after,guard⟩:=o;cases op<;>first|rfl|(simp[gP]at h)
  rcases h1 with⟨hq,_⟩|⟨_,⟨hwx,out,ho,rfl⟩|⟨hwx,rfl⟩⟩
  .exact absurd hq (nq a6u)
  ·
   rcases h2 with⟨hq,_⟩|⟨_,⟨hw,f6b,ho2,rfl⟩|⟨hw,rfl⟩⟩
   .exact absurd hq (nq a6t)
   .cases hx:gP x with
    |true=>
     obtain⟨k,hk,⟨cs,sN,hv⟩|hv⟩:=uY (P:=P) (G:=G) hx
     .have hf:=fx hx k hk;rw[hv]at ho;cases ho;rw[bV hf]at hw ho2;rw[bN a1]at hw;cases hy:gP y with
      |true=>
       obtain⟨k2,hk2,⟨cs2,e7k,hv2⟩|hv2⟩:=uY (P:=P) (G:=G) hy
       .have hf2:=fy hy k2 hk2;have gK:k≠k2:=λe=>a2 k hk (e▸hk2);have hm:mentions k2 (.ptr k 0)=false:=by simp[mentions,gK]
        have hm2:mentions k (.ptr k2 0)=false:=by simp[mentions,Ne.symm gK]
        have g1:dG k2 (finish {st with H:=cE k cs st.H} x.dst (.ptr k 0) .no)=true:=cU (by have:=a6V gK (sN k2) hf2;rwa[bV hf]at this) hm;have g2:dG k (finish {st with H:=cE k2 cs2 st.H} y.dst (.ptr k2 0) .no)=true:=cU (by have:=a6V (Ne.symm gK) (e7k k) hf;rwa[bV hf2]at this) hm2;rw[hv2]at ho2;cases ho2;refine⟨_,.inr ⟨gY a6t,.inl ⟨hw,_,hv2 st,rfl⟩⟩,.inr ⟨gY a6u,.inl ⟨by simp only;rw[bN a3,bV hf2];exact hwx,_,hv _,?_⟩⟩⟩;simp only;rw[bV hf2,bV g1,bV g2];have e1:({finish {st with H:=cE k cs st.H} x.dst (.ptr k 0) .no with H:=cE k2 cs2 (finish {st with H:=cE k cs st.H} x.dst (.ptr k 0) .no).H}:St)=finish {st with H:=cE k2 cs2 (cE k cs st.H)} x.dst (.ptr k 0) .no:=by cases x.dst<;>rfl
        have e2:({finish {st with H:=cE k2 cs2 st.H} y.dst (.ptr k2 0) .no with H:=cE k cs (finish {st with H:=cE k2 cs2 st.H} y.dst (.ptr k2 0) .no).H}:St)=finish {st with H:=cE k cs (cE k2 cs2 st.H)} y.dst (.ptr k2 0) .no:=by cases y.dst<;>rfl
        rw[e1,e2,c4T gK (a1v hf) (a1v hf2)];exact gL a2 (.inl rfl)
       .rw[hv2]at ho2;cases ho2
      |false=>
       have hay:isApp y=true:=by simpa[hy]using a6t
       rw[a0a hay a1,c5s hay]at ho2;obtain⟨o1,ho1,rfl⟩:=g2Y.1 ho2;obtain⟨o0,ho0,rfl⟩:=g2Y.1 ho1;obtain⟨⟨e,a0Y⟩,_,gI,pZ,a2P⟩:=a0L hay ho0;have e7l:Eff P G ops y st (finish o0.st y.dst o0.v o0.act):=.inr ⟨gY a6t,.inl ⟨hw,o0,ho0,rfl⟩⟩;have g2:dG k (finish o0.st y.dst o0.v o0.act)=true:=wT e7l hf λh=>by rw[hy]at h;cases h
       refine⟨_,.inr ⟨gY a6t,.inl ⟨hw,o0,ho0,rfl⟩⟩,.inr ⟨gY a6u,.inl ⟨by rw[bN a3,pZ];exact hwx,_,hv _,?_⟩⟩⟩;simp only;rw[bV g2,a0Y,gL a2 (.inr ⟨e,rfl⟩),pZ];cases y.dst<;>rfl
     .rw[hv]at ho;cases ho
    |false=>
     have hax:isApp x=true:=by simpa[hx]using a6u
     have hy:gP y=true:=by simpa[hx]using hnn
     obtain⟨⟨e,a0Y⟩,⟨es,hvv⟩,gI,pZ,a2P⟩:=a0L hax ho;obtain⟨k2,hk2,⟨cs2,e7k,hv2⟩|hv2⟩:=uY (P:=P) (G:=G) hy
     .have hf2:=fy hy k2 hk2;have e7l:Eff P G ops x st (finish out.st x.dst out.v out.act):=.inr ⟨gY a6u,.inl ⟨hwx,out,ho,rfl⟩⟩;have g1:dG k2 (finish out.st x.dst out.v out.act)=true:=wT e7l hf2 λh=>by rw[hx]at h;cases h
      rw[bN a1,pZ]at hw;rw[hv2]at ho2;cases ho2;refine⟨_,.inr ⟨gY a6t,.inl ⟨hw,_,hv2 st,rfl⟩⟩,.inr ⟨gY a6u,.inl ⟨by simp only;rw[bN a3,bV hf2];exact hwx,⟨out.v,out.act,finish {out.st with H:=cE k2 cs2 out.st.H} y.dst (.ptr k2 0) .no⟩,?_,?_⟩⟩⟩
      .simp only;rw[bV hf2,a0a hax a3,c5s hax,ho];simp only[Option.map_some,pZ]
      .simp only;rw[bV g1,a0Y,gL a2' (.inr ⟨e,rfl⟩),pZ];congr 1;cases x.dst<;>rfl
     .rw[hv2]at ho2;cases ho2
   ·
    have pZ:out.st.tmps.length=out.st.tmps.length:=rfl;have hwy:gB y ops st.tmps=some false:=by
     rw[bN a1]at hw;cases hx:gP x with
     |true=>
      obtain⟨k,hk,⟨cs,sN,hv⟩|hv⟩:=uY (P:=P) (G:=G) hx
      .rw[hv]at ho;cases ho;rw[bV (fx hx k hk)]at hw;exact hw
      .rw[hv]at ho;cases ho
     |false=>obtain⟨_,_,gI,pZ,_⟩:=a0L (by simpa[hx]using a6u) ho;rw[pZ]at hw;exact hw
    refine⟨_,.inr ⟨gY a6t,.inr ⟨hwy,rfl⟩⟩,.inr ⟨gY a6u,.inl ⟨by rw[bN a3];exact hwx,?_⟩⟩⟩;cases hx:gP x with
    |true=>
     obtain⟨k,hk,⟨cs,sN,hv⟩|hv⟩:=uY (P:=P) (G:=G) hx
     .have hf:=fx hx k hk;have g2:dG k (finish st y.dst (.cY []) .no)=true:=cU hf rfl;rw[hv]at ho;cases ho;refine⟨_,hv _,?_⟩;simp only;rw[bV hf,bV g2,gL a2 (.inl rfl)];cases y.dst<;>rfl
     .rw[hv]at ho;cases ho
    |false=>
     have hax:isApp x=true:=by simpa[hx]using a6u
     obtain⟨⟨e,a0Y⟩,_,gI,pZ,a2P⟩:=a0L hax ho;refine⟨⟨out.v,out.act,finish out.st y.dst (.cY []) .no⟩,by rw[a0a hax a3,ho];rfl,?_⟩;simp only;rw[a0Y,gL a2' (.inr ⟨e,rfl⟩)]
  ·
   rcases h2 with⟨hq,_⟩|⟨_,⟨hw,f6b,ho2,rfl⟩|⟨hw,rfl⟩⟩
   .exact absurd hq (nq a6t)
   .rw[bN a1]at hw;cases hy:gP y with
    |true=>
     obtain⟨k2,hk2,⟨cs2,e7k,hv2⟩|hv2⟩:=uY (P:=P) (G:=G) hy
     .have hf2:=fy hy k2 hk2;have g1:dG k2 (finish st x.dst (.cY []) .no)=true:=cU hf2 rfl;rw[hv2]at ho2;cases ho2;refine⟨_,.inr ⟨gY a6t,.inl ⟨hw,_,hv2 st,rfl⟩⟩,.inr ⟨gY a6u,.inr ⟨by simp only;rw[bN a3,bV hf2];exact hwx,?_⟩⟩⟩;simp only;rw[bV hf2,bV g1, <- gL a2 (.inl rfl)];congr 1;cases x.dst<;>rfl
     .rw[hv2]at ho2;cases ho2
    |false=>
     have hay:isApp y=true:=by simpa[hy]using a6t
     rw[a0a hay a1]at ho2;obtain⟨o0,ho0,rfl⟩:=g2Y.1 ho2;obtain⟨⟨e,a0Y⟩,_,gI,pZ,a2P⟩:=a0L hay ho0;refine⟨_,.inr ⟨gY a6t,.inl ⟨hw,o0,ho0,rfl⟩⟩,.inr ⟨gY a6u,.inr ⟨by rw[bN a3,pZ];exact hwx,?_⟩⟩⟩;simp only;rw[a0Y,gL a2 (.inr ⟨e,rfl⟩)]
   .rw[bN a1]at hw;refine⟨_,.inr ⟨gY a6t,.inr ⟨hw,rfl⟩⟩,.inr ⟨gY a6u,.inr ⟨by rw[bN a3];exact hwx,?_⟩⟩⟩;exact gL a2 (.inl rfl)
 ·
  obtain⟨hqx,_,_⟩:=qB (G:=G) (st:=st) hpx;obtain⟨hyd,_⟩:=b1t hsy;have hss:rR y=true:=by simp[rR,hsy]
  rcases h1 with⟨_,d,ax,hx,rfl⟩|⟨hs,_⟩
  .rw[noq hnx]at h2;rcases h2 with⟨hq,_⟩|⟨_,⟨hw,out,ho,rfl⟩|⟨hw,rfl⟩⟩
   .rw[(kL (G:=G) (st:=st) hss).2.2.1]at hq;cases hq
   .rw[bN a1]at hw;rw[c0F hsy a1]at ho;obtain⟨o0,ho0,rfl⟩:=g2Y.1 ho;obtain⟨_,_,htm⟩:=d5R hsy ho0;refine⟨_,.inr ⟨hss,.inl ⟨hw,o0,ho0,rfl⟩⟩,.inl ⟨hqx,d,ax,?_,?_⟩⟩
    .rw[hyd];exact hx.pure hpx htm
    .rw[hyd,noq hnx];rfl
   .rw[bN a1]at hw;refine⟨_,.inr ⟨hss,.inr ⟨hw,rfl⟩⟩,.inl ⟨hqx,d,ax,?_,?_⟩⟩
    .rw[hyd];exact hx
    .rw[hyd,noq hnx];rfl
  .rw[(kL (G:=G) (st:=st) hs).2.2.1]at hqx;cases hqx
 ·
  obtain⟨hqy,_,_⟩:=qB (G:=G) (st:=st) hpy;obtain⟨hxd,_⟩:=b1t hsx;have hss:rR x=true:=by simp[rR,hsx]
  rcases h2 with⟨_,e,ay,hy,rfl⟩|⟨hs,_⟩
  .rcases h1 with⟨hq,_⟩|⟨_,⟨hw,out,ho,rfl⟩|⟨hw,rfl⟩⟩
   .rw[(kL (G:=G) (st:=st) hss).2.2.1]at hq;cases hq
   .obtain⟨_,_,htm⟩:=d5R hsx ho;rw[hxd]at hy;have hy':QY P G ops y e ay st:=QY.pure (st:=out.st) hy hpy htm.symm;refine⟨_,.inl ⟨hqy,e,ay,hy',rfl⟩,.inr ⟨hss,.inl ⟨by rw[bN a3];exact hw,⟨out.v,out.act,finish out.st y.dst e .no⟩,?_,?_⟩⟩⟩
    .rw[noq hny,c0F hsx a3,ho];rfl
    .rw[hxd,noq hny];rfl
   .rw[hxd]at hy;refine⟨_,.inl ⟨hqy,e,ay,hy,rfl⟩,.inr ⟨hss,.inr ⟨by rw[bN a3];exact hw,?_⟩⟩⟩;rw[hxd];rfl
  .rw[(kL (G:=G) (st:=st) hs).2.2.1]at hqy;cases hqy
def sX(ops:Array Oper)(listed:Array Bool)(st:St):Prop:=∀(j:Nat)(oj:Oper)(d:Tmp),ops[j]? =some oj->gP oj=true->listed.getD j true=false->oj.dst=some d->dG d st=true
def sA(ops:Array Oper):Prop:=∀(i j:Nat)(oi oj:Oper)(d:Tmp),ops[i]? =some oi->ops[j]? =some oj->gP oi=true->gP oj=true->oi.dst=some d->oj.dst=some d->i=j
theorem vV(h:(listed.setIfInBounds i true).getD j true=false):i≠j/\listed.getD j true=false:=by
 by_cases hij:i=j
 .subst hij;exfalso;rw[g3b]at h;by_cases hl:i<listed.size
  .simp[hl]at h
  .rw[Array.getElem?_eq_none (by simpa using hl)]at h;cases h
 .exact⟨hij,by rwa[getD_set_ne true hij]at h⟩
theorem sX.step(hA:sA ops)(hi:ops[i]? =some oi)(hI:sX ops listed st)(hk:∀k,dG k st=true->(gP oi=true->oi.dst≠some k)->dG k s=true):sX ops (listed.setIfInBounds i true) s:=by intro j oj d hj hn hun hd;obtain⟨hij,f6d⟩:=vV hun;exact hk d (hI j oj d hj hn f6d hd) λhni he=>hij (hA i j oi oj d hi hj hni hn he hd)
theorem c9i{Q:St->Prop}(hA:sA ops)(hi:ops[i]? =some oi)(hsi:(dW oi.op=true/\pH ops oi=false)\/rR oi=true):
  ∀(fuel:Nat)(listed:Array Bool)(st s:St),gX ops listed->
   (∀j oj,ops[j]? =some oj->j≠i->listed.getD j true=false->kE ops ops.size j i=false->oi.apart ops oj=true/\sV ops oi oj=true)->
   i∈Region.ready .any ops listed->sX ops listed st->Eff P G ops oi st s->
   b9w P G ops Q fuel (listed.setIfInBounds i true) s->b9w P G ops Q (fuel+1) listed st:=by
 intro fuel
 induction fuel with
 |zero=>
  intro listed st s _ _ hr _ hy H;refine⟨λh=>(by rw[h]at hr;cases hr),λj hj=>?_⟩;by_cases hji:j=i
  .subst hji;rw[hi];exact(eO hsi).2 ⟨s,hy,H⟩
  .have:=ready_mono hj hji;rw[H.1]at this;cases this
 |succ fuel ih=>
  intro listed st s qM a0M hr hI hy H;refine⟨λh=>(by rw[h]at hr;cases hr),λj hj=>?_⟩;by_cases hji:j=i
  .subst hji;rw[hi];exact(eO hsi).2 ⟨s,hy,H⟩
  .have h1:=H.2 j (ready_mono hj hji);obtain⟨a0b,oj,hoj,eS⟩:=mem_ready.1 hj;rw[hoj]at h1|-;simp only at h1|-;obtain⟨a3M,oi',c2y,b1v⟩:=mem_ready.1 hr;have a6v:kE ops ops.size j i=false:=dZ qM a3M _ _ λo ho=>by rw[hoj]at ho;cases ho;exact eS
   obtain⟨hap,hpo⟩:=a0M j oj hoj hji a0b a6v;have hsj:(dW oj.op=true/\pH ops oj=false)\/rR oj=true:=by
    by_cases hs:rR oj=true
    .exact .inr hs
    .refine .inl ⟨?_,?_⟩
     .unfold sV at hpo;simp only[rR,g3l,g2Z,g3v]at hpo hs;rcases hpo with((((((h|h)|h)|h)|h)|h)|h)|h
      .exact h.1.2
      .exact absurd (.inl (.inl h.1.2)) hs
      .exact h.1.1.2
      .exact absurd (.inl (.inr h.2)) hs
      .exact h.1.2
      .exact absurd (.inl h.1.2) hs
      .exact absurd (.inr h.2) hs
      .exact(qB (G:=G) (st:=st) h.1.2).1
     .cases hx:pH ops oj with
      |false=>rfl
      |true=>
       have aG:i<ops.size:=(g3i.1 hi).1;rcases xI hx hoj aG (λe=>hji e.symm)with h'|h'
       .have:=dZ qM a0b ops.size i λo ho=>by rw[c2y]at ho;cases ho;exact b1v
        rw[h']at this;cases this
       .rw[a6v]at h';cases h'
   obtain⟨s12,hu,hk⟩:=(eO hsj).1 h1;obtain⟨s2,e1,e2⟩:=b1u hap hpo (λhn d hd=>hI i oi d hi hn a3M hd) (λhn d hd=>hI j oj d hoj hn a0b hd) hy hu;refine(eO hsj).2 ⟨s2,e1,?_⟩;refine ih (listed.setIfInBounds j true) s2 s12 (qM.set hj) (λk ok hk' hki hun uV=>?_) (ready_mono hr (Ne.symm hji)) (hI.step hA hoj λk hf hn=>wT e1 hf hn) e2 ?_
   .exact a0M k ok hk' hki (vV hun).2 uV
   .rw[Array.setIfInBounds_comm _ _ hji];exact hk
theorem c0H(gK:gW all≠[])(ht:d2T all o=true)(h:qN P G true all o K st):qN P G true all o (λs=>K s/\∀k,dG k st=true->(gP o=true->o.dst≠some k)->dG k s=true) st:=by
 unfold d2T at ht;have hsq:uD true all o=true:=by
  cases hk:gW all with
  |nil=>exact absurd hk gK
  |cons k r=>simp[uD,hk]
 by_cases hs:rR o=true
 .obtain⟨s,h1,h2⟩:=(eO (.inr hs)).1 h;exact(eO (.inr hs)).2 ⟨s,h1,h2,λk hf hn=>wT h1 hf hn⟩
 .unfold qN at h|-;split
  .rename_i hw;rw[hw]at h;simp only at h;split
   .rename_i f ds hc;rw[hc]at h;rcases h with⟨r,own,h1,h3,h2⟩|⟨h0,s',h1,h2⟩
    .exact .inl ⟨r,own,h1,λ_=>h3 (by trivial),h2,λk hf _=>cU hf (a1u (h3 (by trivial)))⟩
    .rw[hsq]at h0;cases h0
   .rename_i hc;rw[hc]at h;simp only at h;split
    .rename_i f g2X zN;rw[zN]at h;simp only[a3d]at h|-;rw[hsq]at h|-;simp only[if_true]at h|-;obtain⟨d,ks,h1,h2⟩:=h;exact⟨d,ks,h1,h2,λk hf _=>cU hf (a1u h1.2.2.2.2)⟩
    .rename_i zN;rw[zN]at h;simp only at h;split
     .rename_i out ho;rw[ho]at h;refine⟨h,λk hf _=>?_⟩;have c0I:dG k out.st=true/\mentions k out.v=false:=by
       simp only[rR,g3l]at ht hs;rcases ht with((hq|ha)|hn)|pZ
       .rw[c5l hq ho];exact⟨hf,c5r hq hf ho⟩
       .exact absurd (.inl (.inl ha)) hs
       .exact absurd (.inl (.inr hn)) hs
       .split at pZ
        .rename_i qA;exact b6r qA hf ho
        .cases pZ
      exact cU c0I.1 c0I.2
     .rename_i ho;rw[ho]at h;exact h
  .rename_i hw;rw[hw]at h;exact⟨h,λk hf _=>cU hf rfl⟩
  .rename_i hw;rw[hw]at h;exact h
theorem c5u{ops:Array Oper}{Q:St->Prop}(hA:sA ops)(hT:gW ops=[]\/∀o∈ops.toList,d2T ops o=true):∀(l:List Oper)(k:Nat)(listed:Array Bool)(st:St),(∀j,l[j]? =ops[k+j]?)->gX ops listed->sX ops listed st->
  lexFrom ops l.length k listed=true->wN P G true ops l st Q->b9w P G ops Q l.length listed st
 |[],_,_,_,_,_,_,hB,h=>⟨by simpa[lexFrom]using hB,h⟩
 |o::l,k,listed,st,hl,qM,hI,hB,h=>by
  have h0:ops[k]? =some o:=by simpa using (hl 0).symm
  simp only[List.length_cons,lexFrom,g2Z,h0]at hB;obtain⟨⟨hr,hf⟩,hB'⟩:=hB;have hrk:k∈Region.ready .any ops listed:=by simpa using hr
  have tI:∀s,sX ops (listed.setIfInBounds k true) s->wN P G true ops l s Q->b9w P G ops Q l.length (listed.setIfInBounds k true) s:=λs hs h=>c5u hA hT l (k+1) _ s (λj=>by have:=hl (j+1);simpa[Nat.add_assoc,Nat.add_comm 1 j]using this) (qM.set hrk) hs hB' h
  have b6h:∀j oj,ops[j]? =some oj->j≠k->listed.getD j true=false->kE ops ops.size j k=false->o.apart ops oj=true/\sV ops o oj=true:=by intro j oj hj gK hun uV;rw[g3c]at hf;have h1:=hf j (List.mem_range.2 (g3i.1 hj).1);simp only[hj,g3l,beq_iff_eq,gK,false_or,hun,g3t,uV,g2Z]at h1;exact h1
  have only:(∀j oj,ops[j]? =some oj->j≠k->listed.getD j true=false->kE ops ops.size j k=false->False)->b9w P G ops Q (l.length+1) listed st:=λuV=>by
   refine⟨λh'=>(by rw[h']at hrk;cases hrk),λj hj=>?_⟩;by_cases hjk:j=k
   .subst hjk;rw[h0];have c0I:qN P G true ops o (λs=>wN P G true ops l s Q/\sX ops (listed.setIfInBounds j true) s) st:=by
     by_cases hT0:gW ops=[]
     .refine jM (λs hs=>⟨hs,λi oi d hi hn _ hd=>?_⟩) h;have:d∈gW ops:=g3E.2 ⟨oi,by rw[g3X];exact Array.mem_of_getElem? hi,by rw[if_pos hn];exact hd⟩;rw[hT0]at this;cases this
     .have hT:=hT.resolve_left hT0;refine jM (λs hs=>⟨hs.1,hI.step hA h0 hs.2⟩) (c0H hT0 (hT o (by rw[g3X];exact Array.mem_of_getElem? h0)) h)
    exact jM (λs hs=>tI s hs.2 hs.1) c0I
   .obtain⟨a0b,oj,hoj,eS⟩:=mem_ready.1 hj;have a6v:kE ops ops.size j k=false:=dZ qM (mem_ready.1 hrk).1 _ _ λo' xF=>by rw[hoj]at xF;cases xF;exact eS
    exact(uV j oj hoj hjk a0b a6v).elim
  by_cases hs:(dW o.op=true/\pH ops o=false)\/rR o=true
  .obtain⟨s,hd,hk⟩:=(eO hs).1 h;exact c9i hA h0 hs l.length listed st s qM (λj oj hj gK hun uV=>b6h j oj hj gK hun uV) hrk hI hd (tI _ (hI.step hA h0 λk hf hn=>wT hd hf hn) hk)
  .refine only λj oj hj gK hun uV=>?_;obtain⟨_,hpo⟩:=b6h j oj hj gK hun uV;cases hal:pH ops o with
   |true=>
    obtain⟨_,ok,oB,d5T⟩:=mem_ready.1 hrk;have d5U:kE ops ops.size k j=false:=dZ qM hun _ _ λo' xF=>by rw[oB]at xF;cases xF;exact d5T
    rcases xI hal h0 (g3i.1 hj).1 gK with h'|h'
    .rw[uV]at h';cases h'
    .rw[d5U]at h';cases h'
   |false=>
    unfold sV at hpo;simp only[rR,g3l,g2Z,g3v]at hpo hs;rcases hpo with((((((h'|h')|h')|h')|h')|h')|h')|h'
    .exact hs (.inl ⟨h'.1.1,hal⟩)
    .exact hs (.inl ⟨h'.1.1,hal⟩)
    .exact hs (.inr (.inl (.inl h'.1.1.1)))
    .exact hs (.inl ⟨h'.1,hal⟩)
    .exact hs (.inr (.inl (.inr h'.1.1)))
    .exact hs (.inr (.inl h'.1.1))
    .exact hs (.inl ⟨(qB (G:=G) (st:=st) h'.1.1).1,hal⟩)
    .exact hs (.inr (.inr h'.1.1))
theorem Rel.drew(hr:Rel P G base R μ st a w):Rel P G base R μ st a w.drew/\Step base R w R w.drew:=
 have hs:Step base R w R w.drew:=⟨(a2d.refl _ _).drew,λ_ _ h=>h,λ_ _ h h'=>absurd h h',λ_ _ _=>rfl⟩
 ⟨hr.step hs (λ_ _=>rfl) (λ_ _ h h'=>absurd h h') hr.rY,hs⟩
theorem b6s{α β:Type}{f:α->Option β}:∀{l:List α},(l.filterMap f).Nodup->∀(i j:Nat){x y:α}{d:β},l[i]? =some x->l[j]? =some y->f x=some d->f y=some d->i=j
 |z::r,hn,i,j,x,y,d,hi,hj,hx,hy=>by
  have tl:(r.filterMap f).Nodup:=by
   rw[List.filterMap_cons]at hn;split at hn
   .exact hn
   .exact(List.nodup_cons.1 hn).2
  have no:∀{k:Nat}{w:α},f z=some d->r[k]? =some w->f w=some d->False:=λhz hk hw=>by rw[List.filterMap_cons,hz]at hn;exact(List.nodup_cons.1 hn).1 (g3E.2 ⟨_,g3e hk,hw⟩)
  cases i with
  |zero=>
   simp at hi;subst hi;cases j with
   |zero=>rfl
   |succ j=>exact(no hx (by simpa using hj) hy).elim
  |succ i=>
   cases j with
   |zero=>simp at hj;subst hj;exact(no hy (by simpa using hi) hx).elim
   |succ j=>rw[b6s tl i j (by simpa using hi) (by simpa using hj) hx hy]
theorem b9x{id:Nat}{Q:Exit->St->Prop}(hm:P.follows .mixedOrders=true)(hB:d5O ops=true)(hF:b3g ops st=true)(h:wN P G true ops ops.toList st λs=>Q .normal s):SW P G (.region id ops true) st Q:=by
 intro base R μ a w hr;obtain⟨jD,uO⟩:=hr.drew;unfold d5O at hB;rw[g2Z]at hB;obtain⟨hN,hB⟩:=hB;rw[g3l,List.isEmpty_iff,g2Z,g3c,g3N]at hN;have mem:∀{i oi d},ops[i]? =some oi->gP oi=true->oi.dst=some d->d∈gW ops:=λhi hn hd=>g3E.2 ⟨_,by rw[g3X];exact Array.mem_of_getElem? hi,by rw[if_pos hn];exact hd⟩;have hA:sA ops:=λi j oi oj d hi hj hni hnj hdi hdj=>by
  rcases hN with hN|⟨_,hN⟩
  .have:=mem hi hni hdi;rw[hN]at this;cases this
  .exact b6s (l:=ops.toList) (f:=λo=>if gP o then o.dst else none) hN i j (by simpa using hi) (by simpa using hj) (by rw[if_pos hni];exact hdi) (by rw[if_pos hnj];exact hdj)
 have hI:sX ops (Array.replicate ops.size false) st:=λj oj d hj hn _ hd=>g3c.1 hF d (mem hj hn hd);have h1:=c5u hA (hN.imp (λh=>h) (λh=>h.1)) ops.toList 0 (Array.replicate ops.size false) st (by simp) (λk hk=>by
  rcases Nat.lt_or_ge k ops.size with h'|h'
  .simp[h']at hk
  .simp[Nat.not_lt.2 h']at hk) hI (by simpa using hB) h
 rw[show ops.toList.length=ops.size by simp]at h1;exact wp_region_any hm (b5N ops.size _ st h1 base R μ a w.drew jD λs a' w' R' μ' q1 q2 q3=>⟨s,R',μ',q1,q2,uO.trans q3⟩)
theorem a6g:∀(c:Code)(st:St)(Q:Exit->St->Prop),VW P G c st Q->SW P G c st Q
 |.skip,st,Q,h=>λbase R μ a w hr=>wp_skip ⟨st,R,μ,h,hr,.refl _ _ _⟩
 |.region id ops draw,st,Q,h=>by
  unfold VW at h;cases draw with
  |true=>exact b9x (h.1 rfl).1 (h.1 rfl).2.1 (h.1 rfl).2.2 h.2
  |false=>
   replace h:=h.2
   exact λbase R μ a w hr=>wp_region_list (c2s ops _ ops.toList st _ h base R μ a w hr λs a' w' R' μ' q1 q2 q3=>⟨s,R',μ',q1,q2,q3⟩)
 |.seq x y,st,Q,h=>λbase R μ a w hr=>wp_seq (wp_mono (a6g x st _ h base R μ a w hr) λe a1 w1 ⟨s,R1,μ1,q1,q2,q3⟩=>by
   cases e with
   |normal=>exact wp_mono (a6g y s Q q1 base R1 μ1 a1 w1 q2) λe2 a2 w2 ⟨s2,R2,μ2,p1,p2,p3⟩=>⟨s2,R2,μ2,p1,p2,q3.trans p3⟩
   |_=>exact⟨s,R1,μ1,q1,q2,q3⟩)
 |.cond c x y,st,Q,h=>λbase R μ a w hr=>by
  unfold VW at h;split at h
  .rename_i t hc;refine wp_cond (hr.a2f hc) ?_;cases t
   .exact a6g y st Q h base R μ a w hr
   .exact a6g x st Q h base R μ a w hr
  .rename_i hc;obtain⟨t,ht⟩:=hr.d1k hc;refine wp_cond ht ?_;cases t
   .exact a6g y st Q h.2 base R μ a w hr
   .exact a6g x st Q h.1 base R μ a w hr
  .cases h
 |.block id c,st,Q,h=>λbase R μ a w hr=>wp_block (wp_mono (a6g c st _ h base R μ a w hr) λe a1 w1 ⟨s,R1,μ1,q1,q2,q3⟩=>by
   cases e with
   |exit id'=>
    simp only[Exit.inBlock];simp only at q1;by_cases hid:id'=id
    .rw[if_pos hid]at q1|-;exact⟨s,R1,μ1,q1,q2,q3⟩
    .rw[if_neg hid]at q1|-;exact⟨s,R1,μ1,q1,q2,q3⟩
   |_=>exact⟨s,R1,μ1,q1,q2,q3⟩)
 |.loop c,st,Q,h=>h
 |.exit id,st,Q,h=>λbase R μ a w hr=>wp_exit ⟨st,R,μ,h,hr,.refl _ _ _⟩
 |.ret,st,Q,h=>λbase R μ a w hr=>wp_ret ⟨st,R,μ,h,hr,.refl _ _ _⟩
 |.rangeFunc ..,_,_,h=>by simp[VW]at h
 |.scope c,st,Q,h=>λbase R μ a w hr=>wp_scope_straight (wp_mono (a6g c st _ h base R μ a w hr) λe a1 w1 ⟨s,R1,μ1,q1,q2,q3⟩=>by
   cases e with
   |goto l=>exact q1.elim
   |_=>exact⟨s,R1,μ1,q1,q2,q3⟩)
 |.label l,st,Q,h=>λbase R μ a w hr=>wp_label ⟨st,R,μ,h,hr,.refl _ _ _⟩
 |.goto ..,_,_,h=>by simp[VW]at h
end
end Go.VM
end
