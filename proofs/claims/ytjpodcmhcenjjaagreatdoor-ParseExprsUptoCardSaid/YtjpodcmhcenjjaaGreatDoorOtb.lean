/- Lemmas that the law of this claim needs (Z2 ZF). No condition. -/
import Derived.Test.YtjpodcmhcenjjaaGreatDoorOta
import Derived.Deep.LoopGhost
import Derived.Orders
import Derived.Scope
set_option linter.unusedVariables false
set_option linter.unusedSimpArgs false
set_option linter.unusedSectionVars false
set_option maxRecDepth 100000
set_option maxHeartbeats 64000000
section
namespace Go.VM
open Go Go.RowKit
section
variable {P:Program} {G:GT} {st:St} {out:Out}
variable {base:dH} {R R':Nat->Nat->Prop} {μ:Nat->Nat} {a:Act} {w w':World}
theorem d9T{o:Oper}{x y:Operand}{ts:Array TypeId}(ho:o.op=.call {callee:=.builtin .max,args:=#[x,y],argTypes:=ts})(h:d1o G x y st=some out):sV P G o st out:=by
 unfold d1o at h;split at h
 .rename_i k a k' b hx hy;simp only[g1c]at h;subst h;refine bO λbase R μ a w hr=>⟨_,?_,.d _ _ (.int _ _),trivial⟩;simp[execOp,ho,resolve,invoke,builtin,Builtin.max_,Builtin.max2,hr.xI hx,hr.xI hy]
 .cases h
theorem d9U{o:Oper}{x y:Operand}{ts:Array TypeId}(ho:o.op=.call {callee:=.builtin .min,args:=#[x,y],argTypes:=ts})(h:d1p G x y st=some out):sV P G o st out:=by
 unfold d1p at h;split at h
 .rename_i k a k' b hx hy;simp only[g1c]at h;subst h;refine bO λbase R μ a w hr=>⟨_,?_,.d _ _ (.int _ _),trivial⟩;simp[execOp,ho,resolve,invoke,builtin,Builtin.min_,Builtin.min2,hr.xI hx,hr.xI hy]
 .cases h
theorem c4m{o:Oper}{b:Builtin}{args:Array Operand}{ts:Array TypeId}(ho:o.op=.call {callee:=.builtin b,args:=args,argTypes:=ts})(h:tQ P G b args.toList ts.toList st=some out):sV P G o st out:=by
 obtain⟨args⟩:=args;obtain⟨ts⟩:=ts;simp only at h;unfold tQ at h;split at h
 .exact d9N ho h
 .exact c7X ho h
 .exact c7U ho rfl h
 .exact d9T ho h
 .exact d9U ho h
 .cases h
theorem c1v{o:Oper}{fn:Fn}{first captured:Array Operand}(ho:o.op=.makeFunc fn first captured)(h:a7r G fn first captured st=some out):sV P G o st out:=by
 unfold a7r at h;split at h
 .rename_i f;split at h
  .rename_i hf;simp only[g1c]at h;subst h;have hf':first=#[]:=by simpa using hf
   refine bO λbase R μ a w hr=>⟨.func (.func f) #[] (captured.map a.eval),by simp[execOp,ho,Instr.makeFunc,hf'],?_,trivial⟩;split
   .rename_i hc;have hc':captured=#[]:=by simpa using hc
    subst hc';rw[show Array.map a.eval #[]=#[] by simp];exact .fn f
   .refine .clo f _ _ (by simp) λi c hi=>?_;rw[g1g]at hi;obtain⟨x,hx,rfl⟩:=g0V.1 hi;have:(captured.map a.eval).getD i Go.undef=a.eval x:=by
     have hx':captured[i]? =some x:=by simpa using hx
     simp[g0Y,hx']
    rw[this];exact hr.eval x
  .cases h
 .cases h
theorem e5G{o:Oper}(h:mV P G o st=some out):sV P G o st out:=by
 unfold mV at h;split at h
 .exact c3U (.inl ‹_›) h
 .exact c3U (.inr ‹_›) h
 .exact d4f ‹_› h
 .exact b9A ‹_› h
 .exact d9R ‹_› h
 .exact b9y ‹_› h
 .exact b5p ‹_› h
 .exact c3V ‹_› h
 .exact a7u ‹_› h
 .exact c1s ‹_› h
 .exact d4k ‹_› h
 .exact e5w ‹_› h
 .exact d4m ‹_› h
 .exact c4f ‹_› h
 .exact c1v ‹_› h
 .exact c7P ‹_› h
 .exact b8v ‹_› h
 .exact c3W ‹_› h
 .exact d1r ‹_› h
 .exact d1s ‹_› h
 .exact b8r ‹_› h
 .exact b8s ‹_› h
 .exact d1u ‹_› h
 .exact d1y ‹_› h
 .exact d4s ‹_› h
 .exact c4m ‹_› h
 .cases h
end
section
variable (P:Program) (G:GT)
def a6b:Option TypeId->OA
 |some e=>.fresh e
 |none=>.no
def Enters(f:FuncId):Prop:=∃fn,P.funcs[f]? =some fn/\fn.body.isNone=false/\(fn.name== "runtime.NumGoroutine")=false
def dI:Op->Bool
 | .move _| .assign _| .pick _ _ _| .build _ _| .buildSlice _ _ _| .load _ _| .nilCheck _| .binOp _ _ _ _ _| .unOp _ _ _| .convert _ _ _| .lookup _ _ _ _| .extract _ _| .field _ _ _| .index _ _ _| .indexAddr _ _ _| .fieldAddr _ _ _| .slice _ _ _ _ _=>true
 | .call {callee:=.value _, .. }=>true
 | .call {callee:=.builtin .len, .. }=>true
 | .call {callee:=.builtin .max, .. }=>true
 | .call {callee:=.builtin .min, .. }=>true
 |_=>false
def a2x:List Oper->List Tmp
 |[]=>[]
 |o::r=>match o.op with
  | .call {callee:=.builtin .append,args, .. }=>match args.toList with
   | .tmp i::_=>i::a2x r
   |_=>a2x r
  |_=>a2x r
def b4M:List Oper->List Tmp
 |[]=>[]
 |o::r=>match o.op,o.dst with
  | .call {callee:=.builtin .append, .. },some i=>i::b4M r
  |_,_=>b4M r
def uZ(all:Array Oper)(o:Oper):Bool:=
 match o.guard,o.op,o.dst with
 |none,.move (.tmp j),some i=>j !=i&&(a2x all.toList).contains i
 |none,.assign (.tmp j),some i=>j !=i&&(b4M all.toList).contains j
 |none,.load _ (.tmp _),some i=>(a2x all.toList).contains i
 |none,.call {callee:=.value _, .. },some i=>(a2x all.toList).contains i
 |none,.buildSlice _ _ _,some i=>(a2x all.toList).contains i
 |_,_,_=>false
def a8f(all:Array Oper)(o:Oper)(act:OA):OA:=if uZ all o then act else .no
def b0r(q:Bool)(all:Array Oper)(o:Oper)(_:DV)(act:OA):OA:=if q&&dI o.op then a8f all o act else act
def oD(f:FuncId)(g0U:List DV)(ls:List (Option Loc))(st:St)(dst:Option Tmp)(s':St):Prop:=
 ∀(base:dH) (R:Nat->Nat->Prop) (μ:Nat->Nat) (a:Act) (w:World) (args:Array Value),Rel P G base R μ st a w->args.size=g0U.length->(∀(i:Nat) (d:DV),g0U[i]? =some d->TV R μ w (args.getD i undef) d)->
  (∀(i:Nat) (l:Loc),ls[i]? =some (some l)->∀u,cP a w μ l=some u->u=args.getD i undef)->
  Calls P f args w λe w'=>∃v R' μ',e=.returned v/\Rel P G base R' μ' s' (a.put dst v) w'/\Step base R w R' w'
def rowsOf:List Oper->Nat->List Nat->List Nat
 |[],_,rows=>rows
 |o::r,n,rows=>Nat.rec (rowsOf r (n+1) (0::rows)) (λm _=>rowsOf r (n+1) (Nat.succ m::rows)) (o.after.toList.foldl (λacc e=>if Region.binds .any e=true/\e.on<n then acc |||((1 <<<e.on) |||rows.getD (n-1-e.on) 0) else acc) 0)
def jL(ops:Array Oper)(_ j i:Nat):Bool:=decide (j<ops.size)&&((rowsOf ops.toList 0 []).getD (ops.size-1-j) 0).testBit i
def oO(all:Array Oper)(o:Oper):Bool:=(List.range all.size).all λk=>match all[k]? with
 |some o'=>o'.dst !=o.dst||(List.range all.size).all λj=>j==k||jL all all.size j k||jL all all.size k j
 |none=>true
def d4B(ks:List Nat):Loc->Bool
 | .c k _=> !ks.contains k
 | .t _=>true
def mY(ks:List Nat)(own:List (TypeId×List Loc)):Bool:=own.all λc=>c.2.all (d4B ks)
def pK:DV->Bool
 | .ptr _ _=>false
 | .mp _=>false
 | .it _=>false
 | .clo _ _=>false
 | .ag _=>false
 |_=>true
def RO(f:FuncId)(g0U:List DV)(ks:List Nat)(H:List (Nat×bD))(d:DV):Prop:=
 ∀st:St,(∀k∈ks,getKey k st.H=getKey k H)->mY ks st.own=true->∀dst ls,oD P G f g0U ls st dst (finish st dst d .no)
def a2y(ro:Bool)(f:FuncId)(g0U:List DV)(ls:List (Option Loc))(dst:Option Tmp)(st:St)(K:St->Prop):Prop:=
 if ro=true then ∃d ks,(Enters P f/\RO P G f g0U ks st.H d/\mY ks st.own=true/\(ks.all λk=>(getKey k st.H).isSome)=true/\pK d=true)/\K (finish st dst d .no)
 else ∃s',(Enters P f/\oD P G f g0U ls st dst s')/\K s'
def eW(o:Oper):Bool:=match o.op,o.dst with
 | .alloc _,some _=>true
 |_,_=>false
def gE(ops:Array Oper):List Nat:=ops.toList.filterMap λo=>if eW o then o.dst else none
def tD(q:Bool)(all:Array Oper)(o:Oper):Bool:=q&&(!oO all o|| !(gE all).isEmpty)
def pC(q:Bool)(all:Array Oper)(o:Oper)(K:St->Prop)(st:St):Prop:=
 match eJ o all st.tmps with
 |some true=>
  match kB G o st with
  |some (f,ds)=>(∃r own,(Enters P f/\CS P G f ds r own)/\(q=true->pK r=true)/\K (finish st o.dst r (if q&& !uZ all o then .no else a6b own)))\/
   (tD q all o=false/\∃s',(Enters P f/\oD P G f (ds.map .d) (mM o) st o.dst s')/\K s')
  |none=>
   match dK G o st with
   |some (f,g0U)=>a2y P G (tD q all o) f g0U (mM o) o.dst st K
   |none=>
    match mV P G o st with
    |some out=>K (finish out.st o.dst out.v (b0r q all o out.v out.act))
    |none=>False
 |some false=>K (finish st o.dst (.cI []) .no)
 |none=>False
def vG(q:Bool)(all:Array Oper):List Oper->St->(St->Prop)->Prop
 |[],st,K=>K st
 |o::rest,st,K=>pC P G q all o (λs=>vG q all rest s K) st
def a4s(o:Oper):Bool:=match o.op with
 | .call {callee:=.value _, .. }=>true
 |_=>false
def isApp(o:Oper):Bool:=match o.op with
 | .call {callee:=.builtin .append, .. }=>true
 |_=>false
def b4e(o:Oper):Bool:=match o.op,o.dst with
 | .store _ _ _,none=>true
 |_,_=>false
def a9j:Op->Bool
 | .move _| .assign _| .pick _ _ _| .nilCheck _| .binOp _ _ _ _ _| .unOp _ _ _| .convert _ _ _| .extract _ _| .field _ _ _| .index _ _ _| .indexAddr _ _ _| .fieldAddr _ _ _| .slice _ _ _ _ _=>true
 |_=>false
def qH(o:Oper):Bool:=isApp o||eW o||b4e o
def d1C(all:Array Oper)(o:Oper):Bool:=(dI o.op||isApp o||eW o||(match o.op with
 | .store _ _ _=>true
 | .mapUpdate _ _ _ _=>true
 |_=>false))
def rR(all:Array Oper)(x y:Oper):Bool:=(dI x.op&&dI y.op&& !(uZ all x&&uZ all y))||(dI x.op&&isApp y&& !uZ all x)||(isApp x&&dI y.op&& !uZ all y&& !a4s y)||(dI x.op&&eW y)||(eW x&&dI y.op&& !a4s y)||((isApp x||eW x)&&(isApp y||eW y)&&(eW x||eW y))||(a9j x.op&& !uZ all x&&b4e y)||(b4e x&&a9j y.op&& !uZ all y)
def uK(k:Nat):bD->Bool
 | .cells cs=>cs.all λc=> !mentions k c
 |_=>true
def cR(k:Nat)(st:St):Bool:=(st.tmps.all λv=> !mentions k v)&&(st.H.all λp=>p.1 !=k&&uK k p.2)&&(st.own.all λc=>c.2.all λl=> !l.a0a k)
def b2d(ops:Array Oper)(st:St):Bool:=(gE ops).all λk=>cR k st
def lexFrom(ops:Array Oper):Nat->Nat->Array Bool->Bool
 |0,_,listed=>(Region.ready .any ops listed).isEmpty
 |fuel+1,k,listed=>(Region.ready .any ops listed).contains k&&
  (match ops[k]? with
  |none=>false
  |some oi=>
   (List.range ops.size).all λj=>j==k||listed.getD j true||jL ops ops.size j k||(match ops[j]? with
    |some oj=>oi.apart ops oj&&rR ops oi oj
    |none=>true))&&
  lexFrom ops fuel (k+1) (listed.setIfInBounds k true)
def d4C(ops:Array Oper):Bool:=((gE ops).isEmpty||(ops.toList.all (d1C ops)&&decide ((gE ops).Nodup)))&&lexFrom ops ops.size 0 (Array.replicate ops.size false)
def VW:Code->St->(Exit->St->Prop)->Prop
 | .skip,st,Q=>Q .normal st
 | .region _ ops draw,st,Q=>(draw=true->P.follows .mixedOrders=true/\d4C ops=true/\b2d ops st=true)/\vG P G draw ops ops.toList st λs=>Q .normal s
 | .seq x y,st,Q=>VW x st λe s=>match e with
  | .normal=>VW y s Q
  |e=>Q e s
 | .cond c x y,st,Q=>
  match st.eval G c with
  | .d (.bool t)=>if t then VW x st Q else VW y st Q
  | .qF=>VW x st Q/\VW y st Q
  |_=>False
 | .block id c,st,Q=>VW c st λe s=>match e with
  | .exit id'=>if id'=id then Q .normal s else Q (.exit id') s
  |e=>Q e s
 | .loop c,st,Q=>SW P G (.loop c) st Q
 | .exit id,st,Q=>Q (.exit id) st
 | .ret,st,Q=>Q .ret st
 | .label _,st,Q=>Q .normal st
 | .scope c,st,Q=>VW c st λe s=>match e with
  | .goto _=>False
  |e=>Q e s
 |_,_,_=>False
end
section
variable {P:Program} {G:GT} {st:St} {out:Out}
variable {base:dH} {R R':Nat->Nat->Prop} {μ:Nat->Nat} {a:Act} {w w':World}
theorem SW.mono{c:Code}{Q Q':Exit->St->Prop}(hq:∀e s,Q e s->Q' e s)(h:SW P G c st Q):SW P G c st Q':=λbase R μ a w hr=>wp_mono (h base R μ a w hr) λ_ _ _ ⟨st',R',μ',q,r,s⟩=>⟨st',R',μ',hq _ _ q,r,s⟩
theorem a3G(hr:Rel P G base R μ st a w){o:Oper}{all:Array Oper}{b:Bool}(h:eJ o all st.tmps=some b):Region.wanted o (yielded all a.tmps)=b:=by
 unfold eJ at h;unfold Region.wanted;split at h
 .rename_i hg;rw[hg];simpa using h
 .rename_i j want hg;rw[hg];simp only;unfold vK at h;unfold yielded;cases hd:(all[j]?).bind (·.dst)with
  |none=>rw[hd]at h;simp at h;subst h;rfl
  |some t=>
   rw[hd]at h;simp only[Option.bind_some]at h|-;by_cases ht:t<a.tmps.size
   .have h1:a.tmps[t]? =some a.tmps[t]:=g1o ht;have ht':t<st.tmps.length:=by rw[<-hr.size];exact ht
    have h2:st.tmps[t]? =some st.tmps[t]:=g1a ht';have hv:=hr.tmps t _ _ h1 h2;rw[h2]at h;simp only[Option.getD_some]at h;rw[h1];generalize a.tmps[t]=v at *;generalize st.tmps[t]=d at *;cases hv with
    |undef=>cases h
    |qF=>cases h
    |d v x hx=>
     cases hx with
     |bool b'=>simp at h;subst h;cases b'<;>cases want<;>rfl
     |_=>simp at h;subst h;rfl
    |_=>simp at h;subst h;rfl
   .have h1:a.tmps[t]? =none:=Array.getElem?_eq_none (Nat.le_of_not_lt ht);have h2:st.tmps[t]? =none:=List.getElem?_eq_none (by rw[<-hr.size];exact Nat.le_of_not_lt ht);rw[h2]at h;simp at h;subst h;rw[h1]
    rfl
theorem b9G(hr:Rel P G base R μ st a w):∀ {l:List Operand} {ds:List D},yQ (l.map (st.eval G))=some ds->l.length=ds.length/\∀(i:Nat) (d:D),ds[i]? =some d->V R w ((l.map a.eval).getD i undef) d
 |[],ds,h=>by simp[yQ]at h;subst h;simp
 |x::l,ds,h=>by
  simp only[List.map_cons]at h;cases hx:st.eval G x with
  |d y=>
   rw[hx]at h;simp only[yQ]at h;split at h<;>simp at h;rename_i ds' hds;subst h;obtain⟨h1,h2⟩:=b9G hr hds;refine⟨by simp[h1],λi d hi=>?_⟩;cases i with
   |zero=>simp at hi;subst hi;exact hr.mF hx
   |succ i=>simp at hi;simpa using h2 i d hi
  |_=>rw[hx]at h;simp[yQ]at h
theorem d0f{o:Oper}{f:FuncId}{ds:List D}{r:DV}{own:Option TypeId}(hc:kB G o st=some (f,ds))(rI:Enters P f/\CS P G f ds r own)(hr:Rel P G base R μ st a w){K:Act->World->Prop}{Q:Exit->Act->World->Prop}(h:∀v R' w',Rel P G base R' μ (finish st o.dst r (a6b own)) (a.put o.dst v) w'->Step base R w R' w'->K (a.put o.dst v) w'):o.wp P a w K Q:=by
 unfold kB at hc;split at hc
 .rename_i x args ts oV;split at hc
  .rename_i f' ds' hx hds;simp at hc;obtain⟨rfl,rfl⟩:=hc;obtain⟨⟨fn,hf1,hf2,hf3⟩,rI⟩:=rI;obtain⟨hl,hv⟩:=b9G hr hds;have a6a:(execOp a.eval o).run P w=.ok (.enter f' (args.map a.eval)) w:=by
    have c1w: ¬fn.body=none:=λhe=>by simp[he]at hf2
    have c1x: ¬fn.name= "runtime.NumGoroutine" :=by simpa using hf3
    simp[execOp,oV,resolve,hr.b5e hx,Deferred.ofValue,invoke,callFunc,hf1,c1w,c1x]
   unfold Oper.wp;rw[a6a]
   show Calls P f' (args.map a.eval) w _
   refine(rI w R (args.map a.eval) (hr.vL.up hr.base) hr.qP (by simpa using hl) (λi d hi=>by have:=hv i d hi;simpa[g0Y,List.getD]using this)).mono λe w' ⟨v,R',he,htv,hs,gD,ho⟩=>?_
   subst he;have hsb:Step base R w R' w':=⟨hs.below.mono hr.base,hs.mono,λb o q1 q2=>hr.base b (hs.new b o q1 q2),hs.cells⟩;have mW:=hr.step hsb hs.below.below.block hs.new gD;refine h v R' w' (mW.put (htv μ) ?_) hsb;cases own with
   |none=>trivial
   |some e=>
    have mN:=ho e rfl;refine⟨?_,λk o' hk hsp=>?_,?_⟩
    .rcases mN with q|⟨g,n,cap,cur,q1,q2,q3⟩
     .exact .inl q
     .exact .inr ⟨g,n,cap,cur,q1,hr.base _ q2,q3⟩
    .obtain⟨_,_,h3⟩:=hr.jR k o' hk;have h1:w.heap.size<=μ k:=mN.a2s hsp;have h2:=h3.lt;omega
    .obtain⟨vs,rO⟩:=hr.own;refine⟨vs,rO.step hr hs.below.below.block (λb o hb q=>by
      by_cases hR:R b o
      .exact hR
      .have:=hs.new b o q hR;omega),λv' hv'=>⟨λg hg hg'=>?_,λg hg hg'=>?_⟩⟩
     .have h1:w.heap.size<=g:=mN.a2s hg;have h2:=rO.lt hv' hg';omega
     .have h1:w.heap.size<=g:=mN.a2s hg';have h2:=rO.lt hv' hg;omega
  .cases hc
 .cases hc
theorem CS.forget{f:FuncId}{ds:List D}{r:DV}{own:Option TypeId}(h:CS P G f ds r own):CS P G f ds r none:=λw R args hg hR hl hv=>(h w R args hg hR hl hv).mono λe w' ⟨v,R',h1,h2,h3,h4,_⟩=>⟨v,R',h1,h2,h3,h4,λ_ he=>by cases he⟩
theorem b5r{o:Oper}{f:FuncId}{g0U:List DV}{s':St}(hc:dK G o st=some (f,g0U))(rI:Enters P f/\oD P G f g0U (mM o) st o.dst s')(hr:Rel P G base R μ st a w){K:Act->World->Prop}{Q:Exit->Act->World->Prop}(h:∀v R' μ' w',Rel P G base R' μ' s' (a.put o.dst v) w'->Step base R w R' w'->K (a.put o.dst v) w'):o.wp P a w K Q:=by
 obtain⟨⟨fn,hf1,hf2,hf3⟩,rI⟩:=rI;have c1w: ¬fn.body=none:=λhe=>by simp[he]at hf2
 have c1x: ¬fn.name= "runtime.NumGoroutine" :=by simpa using hf3
 have main:∀args:Array Value,(execOp a.eval o).run P w=.ok (.enter f args) w->args.size=g0U.length->(∀(i:Nat) (d:DV),g0U[i]? =some d->TV R μ w (args.getD i undef) d)->
   (∀(i:Nat) (l:Loc),(mM o)[i]? =some (some l)->∀u,cP a w μ l=some u->u=args.getD i undef)->o.wp P a w K Q:=λargs a6a hl hv a8e=>by
  unfold Oper.wp;rw[a6a]
  show Calls P f args w _
  refine(rI base R μ a w args hr hl hv a8e).mono λe w' ⟨v,R',μ',he,mW,hs⟩=>?_;subst he;exact h v R' μ' w' mW hs
 have each:∀(l:List Operand) (i:Nat) (d:DV),(l.map (st.eval G))[i]? =some d->TV R μ w ((l.map a.eval).getD i undef) d:=λl i d hi=>by
  rw[g1g]at hi;obtain⟨x,hx,rfl⟩:=g0V.1 hi;have:(l.map a.eval).getD i undef=a.eval x:=by simp[List.getD,hx]
  rw[this];exact hr.eval x
 have eC:∀(args:Array Operand) (vs:Array Value),mM o=args.toList.map a5Q->∀(i:Nat) (l:Loc),(mM o)[i]? =some (some l)->∀u,cP a w μ l=some u->u=(args.map a.eval++vs).getD i undef:=λargs vs sE i l hi u hu=>by
  rw[sE,g1g]at hi;obtain⟨x,hx,hxl⟩:=g0V.1 hi;cases x with
  |tmp t=>
   simp only[a5Q,g1c]at hxl;subst hxl;simp only[cP]at hu;have aF:i<args.size:=by have:=(g0X.1 hx).1;simpa using this
   have he:args[i]? =some (.tmp t):=by simpa using hx
   rw[g0Y,Array.getElem?_append_left (by simpa using aF),Array.getElem?_map,he];simp[Act.eval,hu]
  |_=>cases hxl
 unfold dK at hc;split at hc
 .rename_i x args ts oV;have sE:mM o=args.toList.map a5Q:=by simp[mM,oV]
  split at hc
  .rename_i f' hx;simp at hc;obtain⟨rfl,rfl⟩:=hc;refine main (args.map a.eval) ?_ (by simp) (λi d hi=>?_) (by simpa using eC args #[] sE)
   .simp[execOp,oV,resolve,hr.b5e hx,Deferred.ofValue,invoke,callFunc,hf1,c1w,c1x]
   .have:=each args.toList i d hi;simpa[g0Y,List.getD]using this
  .rename_i f' cs hx;simp at hc;obtain⟨rfl,rfl⟩:=hc;obtain⟨vs,he,rO,hvc⟩:=(hr.pB hx).b0m;refine main (args.map a.eval++vs) ?_ (by simp[rO]) (λi d hi=>?_) (eC args vs sE)
   .simp[execOp,oV,resolve,he,Deferred.ofValue,invoke,callFunc,hf1,c1w,c1x]
   .by_cases aF:i<args.size
    .rw[g1h (by simpa using aF)]at hi;have:=each args.toList i d hi;rw[g0Y,Array.getElem?_append_left (by simpa using aF)];simpa[g0Y,List.getD]using this
    .rw[g1e (by simp;omega)]at hi;simp only[List.length_map,Array.length_toList]at hi;have:=hvc _ d hi;rw[g0Y,Array.getElem?_append_right (by simp;omega)];simpa[g0Y]using this
  .cases hc
 .cases hc
theorem c7Z{P:Program}{G:GT}{st:St}{q:Bool}{all:Array Oper}{o:Oper}{out:Out}(_:mV P G o st=some out):b0r q all o out.v out.act=.no\/b0r q all o out.v out.act=out.act:=by
 unfold b0r a8f;split
 .split
  .exact .inr rfl
  .exact .inl rfl
 .exact .inr rfl
theorem c4n:∀ {l:List DV} {ds:List D},yQ l=some ds->l=ds.map .d
 |[],ds,h=>by simp[yQ]at h;subst h;rfl
 | .d x::l,ds,h=>by
  simp only[yQ]at h;split at h
  .rename_i ds' hd;simp at h;subst h;rw[c4n hd];rfl
  .cases h
 | .undef::_,_,h=>by simp[yQ]at h
 | .ptr _ _::_,_,h=>by simp[yQ]at h
 | .ep _::_,_,h=>by simp[yQ]at h
 | .mp _::_,_,h=>by simp[yQ]at h
 | .it _::_,_,h=>by simp[yQ]at h
 | .cI _::_,_,h=>by simp[yQ]at h
 | .fn _::_,_,h=>by simp[yQ]at h
 | .qF::_,_,h=>by simp[yQ]at h
 | .zY _::_,_,h=>by simp[yQ]at h
 | .clo _ _::_,_,h=>by simp[yQ]at h
 | .ag _::_,_,h=>by simp[yQ]at h
theorem c8a{o:Oper}{f:FuncId}{ds:List D}(h:kB G o st=some (f,ds)):dK G o st=some (f,ds.map .d):=by
 unfold kB at h;unfold dK;split at h
 .rename_i x args ts oV;split at h
  .rename_i f' ds' hx hds;simp at h;obtain⟨rfl,rfl⟩:=h;simp only[oV,hx];rw[c4n hds]
  .cases h
 .cases h
theorem tE{q:Bool}{all:Array Oper}{o:Oper}{K:St->Prop}{Q:Exit->Act->World->Prop}{KK:Act->World->Prop}(h:pC P G q all o K st)(hr:Rel P G base R μ st a w)(hk:∀s v w' R' μ',K s->Rel P G base R' μ' s (a.put o.dst v) w'->Step base R w R' w'->KK (a.put o.dst v) w'):
  if Region.wanted o (yielded all a.tmps) then o.wp P a w KK Q\/(o.asks P a w/\LetsOut Q) else KK (a.put o.dst Go.undef) w:=by
 unfold pC at h;split at h
 .rename_i hw;rw[a3G hr hw,if_pos rfl];refine .inl ?_;split at h
  .rename_i f ds hc;rcases h with⟨r,own,rI,_,h⟩|⟨_,s',rI,h⟩
   .generalize (q&& !uZ all o)=qn at h;cases qn with
    |true=>exact d0f hc ⟨rI.1,rI.2.forget⟩ hr λv R1 w1 mW hs=>hk _ v w1 R1 μ h mW hs
    |false=>exact d0f hc rI hr λv R1 w1 mW hs=>hk _ v w1 R1 μ h mW hs
   .exact b5r (c8a hc) rI hr λv R1 μ1 w1 mW hs=>hk _ v w1 R1 μ1 h mW hs
  .split at h
   .rename_i f g0U hch;unfold a2y at h;split at h
    .obtain⟨d,ks,⟨h1,h2,h3,_⟩,h⟩:=h;exact b5r hch ⟨h1,h2 st (λ_ _=>rfl) h3 _ _⟩ hr λv R1 μ1 w1 mW hs=>hk _ v w1 R1 μ1 h mW hs
    .obtain⟨s',rI,h⟩:=h;exact b5r hch rI hr λv R1 μ1 w1 mW hs=>hk _ v w1 R1 μ1 h mW hs
   split at h
   .rename_i out hv;obtain⟨v,w1,R1,μ1,cW,mW,htv,a0v,hs⟩:=e5G hv base R μ a w hr;have f0f:a5R P base R1 μ1 out.st a w1 v (b0r q all o out.v out.act):=by
     rcases c7Z (q:=q) (all:=all) hv with he|he
     .rw[he];trivial
     .rw[he];exact a0v
    have hgo:=hk _ v w1 R1 μ1 h (mW.put (dst:=o.dst) htv f0f) hs;unfold Oper.wp;rcases cW with cW|⟨cW,rfl⟩
    .rw[cW];exact hgo
    .rw[cW];exact hgo
   .cases h
 .rename_i hw;rw[a3G hr hw];simp only[Bool.false_eq_true,if_false];exact hk _ _ w R μ h (hr.put (dst:=o.dst) (v:=Go.undef) (.cI #[] [] rfl (by simp)) trivial) (.refl _ _ _)
 .cases h
theorem c1y{q:Bool}(all:Array Oper)(Q:Exit->Act->World->Prop):∀(l:List Oper) (st:St) (K:St->Prop),vG P G q all l st K->∀(base:dH) (R:Nat->Nat->Prop) (μ:Nat->Nat) (a:Act) (w:World),Rel P G base R μ st a w->
  (∀s a' w' R' μ',K s->Rel P G base R' μ' s a' w'->Step base R w R' w'->Q .normal a' w')->wpList P all Q l a w
 |[],st,K,h,base,R,μ,a,w,hr,hk=>hk st a w R μ h hr (.refl _ _ _)
 |o::rest,st,K,h,base,R,μ,a,w,hr,hk=>by unfold wpList;exact tE h hr λs v w' R' μ' h' gD rE=>c1y all Q rest s K h' base R' μ' _ w' gD λs a' w2 R2 μ2 q1 q2 q3=>hk s a' w2 R2 μ2 q1 q2 (rE.trans q3)
theorem gY{q:Bool}{all:Array Oper}{o:Oper}{K K':St->Prop}(hk:∀s,K s->K' s)(h:pC P G q all o K st):pC P G q all o K' st:=by
 unfold pC at *;split
 .rename_i hw;rw[hw]at h;simp only at h|-;split
  .rename_i f ds hc;rw[hc]at h;rcases h with⟨r,own,h1,h3,h2⟩|⟨h0,s',h1,h2⟩
   .exact .inl ⟨r,own,h1,h3,hk _ h2⟩
   .exact .inr ⟨h0,s',h1,hk _ h2⟩
  .rename_i hc;rw[hc]at h;simp only at h;split
   .rename_i f g0U hch;rw[hch]at h;simp only[a2y]at h|-;split
    .rename_i hro;rw[if_pos hro]at h;obtain⟨d,ks,h1,h2⟩:=h;exact⟨d,ks,h1,hk _ h2⟩
    .rename_i hro;rw[if_neg hro]at h;obtain⟨s',h1,h2⟩:=h;exact⟨s',h1,hk _ h2⟩
   rename_i hch;rw[hch]at h;simp only at h;split
   .rename_i out ho;rw[ho]at h;exact hk _ h
   .rename_i ho;rw[ho]at h;exact h
 .rename_i hw;rw[hw]at h;exact hk _ h
 .rename_i hw;rw[hw]at h;exact h
def QY(P:Program)(G:GT)(all:Array Oper)(o:Oper)(d:DV)(act:OA)(st:St):Prop:=
 (eJ o all st.tmps=some true/\((∃f ds own,kB G o st=some (f,ds)/\Enters P f/\CS P G f ds d own/\pK d=true/\act=a6b own)\/(kB G o st=none/\dK G o st=none/\mV P G o st=some ⟨d,act,st⟩)\/
  (kB G o st=none/\∃f g0U ks,dK G o st=some (f,g0U)/\Enters P f/\RO P G f g0U ks st.H d/\mY ks st.own=true/\(ks.all λk=>(getKey k st.H).isSome)=true/\pK d=true/\act=.no)))\/(eJ o all st.tmps=some false/\d=.cI []/\act=.no)
theorem b9I{o:Oper}(hq:dI o.op=true){st':St}(he:∀x∈o.op.operands,st'.eval G x=st.eval G x)(hH:∀x∈o.op.operands,∀k,mentions k (st.eval G x)=true->getKey k st'.H=getKey k st.H):mV P G o st'=(mV P G o st).map λout=>⟨out.v,out.act,st'⟩:=by
 obtain⟨dst,op,ty,pos,after,guard⟩:=o;have parts:∀ps:List (Nat×Operand),(∀x∈ps.map (·.2),st'.eval G x=st.eval G x)->a3d G st' ps=a3d G st ps:=by
  intro ps
  induction ps with
  |nil=>intro _;rfl
  |cons p ps ih=>intro hp;obtain⟨i,x⟩:=p;unfold a3d;rw[hp x (by simp),ih λy hy=>hp y (by simp at hy|-;exact .inr hy)]
 have e5I:∀ps:List (Nat×Operand),(∀x∈ps.map (·.2),st'.eval G x=st.eval G x)->a0t G st' ps=a0t G st ps:=by
  intro ps
  induction ps with
  |nil=>intro _;rfl
  |cons p ps ih=>intro hp;obtain⟨i,x⟩:=p;unfold a0t;rw[hp x (by simp),ih λy hy=>hp y (by simp at hy|-;exact .inr hy)]
 have yK:∀(x:Option Operand) (d n:Nat),(∀y,x=some y->st'.eval G y=st.eval G y)->hZ G st' x d n=hZ G st x d n:=λx d n hx=>by
  cases x with
  |none=>rfl
  |some y=>simp only[hZ,hx y rfl]
 cases op<;>simp only[dI]at hq<;>try cases hq
 all_goals simp only[Op.operands]at he hH
 case move x=>simp[mV,a3D,he]
 case assign x=>simp[mV,a3D,he]
 case pick c a b=>simp only[mV,b5a,he c (by simp),he a (by simp),he b (by simp)];split<;>rfl
 case build t ps=>
  simp only[mV,a8W,parts ps.toList λx hx=>he x (by simpa using hx)];split
  .split
   .simp[Option.map_map,Function.comp_def]
   .simp only[a7s,e5I ps.toList λx hx=>he x (by simpa using hx)];split
    .simp[Option.map_map,Function.comp_def]
    .rfl
  .rfl
 case buildSlice t n ps=>
  simp only[mV,tN,parts ps.toList λx hx=>he x (by simpa using hx)];split
  .split<;>rfl
  .rfl
 case load t x=>
  simp only[mV,b2S,he x (by simp)];split
  .rename_i k off hx;rw[hH x (by simp) k (by rw[hx];simp[mentions])];split
   .simp[Option.map_map,Function.comp_def]
   .rfl
  .simp[Option.map_map,Function.comp_def]
  .rfl
 case nilCheck x=>simp only[mV,wN,he x (by simp)];split<;>rfl
 case binOp op t x y u=>
  simp only[mV,b5b,a1t,c7I,he x (by simp),he y (by simp)];split
  .split<;>rfl
  .split
   .simp[Option.map_map,Function.comp_def]
   .rfl
 case unOp op t x=>
  simp only[mV,vUn,he x (by simp)];split
  .simp[Option.map_map,Function.comp_def]
  .rfl
 case convert src dst x=>
  simp only[mV,b5c,he x (by simp)];split
  .simp[Option.map_map,Function.comp_def]
  .rfl
 case lookup t m k ok=>
  simp only[mV,a7t,he m (by simp),he k (by simp)];split
  .rename_i hm _;rw[hH m (by simp) _ (by rw[hm];simp[mentions])];split
   .simp[Option.map_map,Function.comp_def]
   .rfl
  .rfl
 case extract x i=>
  simp only[mV,a1v,he x (by simp)];split
  .simp[Option.map_map,Function.comp_def]
  .rfl
 case field t x i=>
  simp only[mV,a8X,he x (by simp)];split
  .simp[Option.map_map,Function.comp_def]
  .rfl
 case index t x i=>
  simp only[mV,a8Y,he x (by simp),he i (by simp)];split
  .simp[Option.map_bind,Option.map_map,Function.comp_def]
  .simp[Option.map_bind,Option.map_map,Function.comp_def]
  .rfl
 case indexAddr t x i=>
  simp only[mV,tO,he x (by simp),he i (by simp)];split
  .rw[Option.map_bind];congr 1;funext j;simp only[Function.comp];rw[Option.map_bind];congr 1;funext cs;simp only[Function.comp];split<;>rfl
  .split
   .rfl
   .simp[Option.map_map,Function.comp_def]
  .split
   .rfl
   .simp[Option.map_map,Function.comp_def]
  .rfl
 case fieldAddr t x i=>
  simp only[mV,tP,he x (by simp)];split
  .split
   .rfl
   .split<;>rfl
  .rfl
 case slice t x lo hi mx=>
  have sE:∀y,lo=some y->st'.eval G y=st.eval G y:=λy hy=>he y (by simp[hy]);have hhi:∀y,hi=some y->st'.eval G y=st.eval G y:=λy hy=>he y (by simp[hy]);have hmx:∀y,mx=some y->st'.eval G y=st.eval G y:=λy hy=>he y (by simp[hy]);simp only[mV,a8Z,he x (by simp),yK lo _ _ sE,yK hi _ _ hhi];split
  .simp[Option.map_bind,Option.map_map,Function.comp_def]
  .split
   .simp[Option.map_bind,Option.map_map,Function.comp_def]
   .rfl
  .split
   .simp[Option.map_bind,Option.map_map,Function.comp_def]
   .rfl
  .rw[yK (some _) _ _ λy hy=>hmx y hy];split<;>rfl
  .rw[yK (some _) _ _ λy hy=>hmx y hy];split<;>rfl
  .rfl
 case call c=>
  obtain⟨callee,args,ts⟩:=c;cases callee with
  |value f=>simp[mV]
  |invoke r m=>simp at hq
  |builtin b=>
   have mem:∀ {x:Operand} {l:List Operand},args.toList=l->x∈l->st'.eval G x=st.eval G x:=λhl hx=>he _ (by simp only[Op.operands,Call.operands];rw[<-Array.mem_toList_iff];simp[hl,hx]);cases b<;>simp only[]at hq<;>try cases hq
   .simp only[mV,tQ];split
    .rename_i x t _ heq _;have hx:st'.eval G x=st.eval G x:=mem heq (by simp);have hxm:x∈args:=by rw[<-Array.mem_toList_iff];simp[heq]
     simp only[d1n,hx];split
     .rfl
     .rfl
     .rfl
     .rename_i yJ;rw[hH x (by simpa[Call.operands]using hxm) _ (by rw[yJ];simp[mentions])];split<;>rfl
     .rfl
    .rename_i h1 _ _;cases h1
    .rename_i h1 _ _;cases h1
    .rename_i h1 _;cases h1
    .rename_i h1 _;cases h1
    .rfl
   .simp only[mV,tQ];split
    .rename_i h1 _ _;cases h1
    .rename_i h1 _ _;cases h1
    .rename_i h1 _ _;cases h1
    .rename_i x y _ heq;have hx:st'.eval G x=st.eval G x:=mem heq (by simp);have hy:st'.eval G y=st.eval G y:=mem heq (by simp);simp only[d1o,hx,hy];split<;>rfl
    .rename_i h1 _;cases h1
    .rfl
   .simp only[mV,tQ];split
    .rename_i h1 _ _;cases h1
    .rename_i h1 _ _;cases h1
    .rename_i h1 _ _;cases h1
    .rename_i h1 _;cases h1
    .rename_i x y _ heq;have hx:st'.eval G x=st.eval G x:=mem heq (by simp);have hy:st'.eval G y=st.eval G y:=mem heq (by simp);simp only[d1p,hx,hy];split<;>rfl
    .rfl
theorem c4o{o:Oper}(hq:dI o.op=true)(h:mV P G o st=some out):out.st=st:=by have:=b9I (P:=P) (G:=G) (st:=st) (st':=st) hq (λ_ _=>rfl) (λ_ _ _ _=>rfl);rw[h]at this;simp at this;have h2:=congrArg Out.st this;simpa using h2
theorem a6c(st:St)(dst:Option Tmp)(d:DV)(act:OA):(finish st dst d act).H=st.H:=by cases dst<;>rfl
theorem c4p{dst:Option Tmp}{d:DV}{act:OA}{x:Operand}(h:∀t,dst=some t->x≠ .tmp t):(finish st dst d act).eval G x=st.eval G x:=by
 cases dst with
 |none=>rfl
 |some t=>
  cases x with
  |tmp j=>have eU:t≠j:=λe=>h t rfl (e▸rfl);simp[finish,St.eval,List.getElem?_set_ne eU]
  |_=>rfl
theorem a9k{all:Array Oper}{o:Oper}{dst:Option Tmp}{d:DV}{act:OA}(h:∀t,dst=some t->t ∉ o.looksAt all):∀x∈o.op.operands,(finish st dst d act).eval G x=st.eval G x:=λx hx=>c4p λt ht hxt=>h t ht (by subst hxt;exact List.mem_append_left _ (List.mem_filterMap.2 ⟨.tmp t,by simpa using hx,rfl⟩))
theorem bI{all:Array Oper}{o:Oper}{dst:Option Tmp}{d:DV}{act:OA}(h:∀t,dst=some t->t ∉ o.looksAt all):eJ o all (finish st dst d act).tmps=eJ o all st.tmps:=by
 cases dst with
 |none=>rfl
 |some t=>
  unfold eJ;cases hg:o.guard with
  |none=>rfl
  |some gw=>
   obtain⟨g,want⟩:=gw;have hy:vK all (finish st (some t) d act).tmps g=vK all st.tmps g:=by
    unfold vK;cases ht:(all[g]?).bind (·.dst)with
    |none=>rfl
    |some j=>have eU:t≠j:=λe=>h t rfl (by subst e;simp[Oper.looksAt,hg,ht]);simp[finish,List.getElem?_set_ne eU]
   simp only[hy]
theorem c1z{o:Oper}{st':St}(h:∀x∈o.op.operands,st'.eval G x=st.eval G x):kB G o st'=kB G o st:=by
 unfold kB;split
 .rename_i x args ts oV;rw[oV]at h;have hx:=h x (by simp[Op.operands,Call.operands]);have ha:args.toList.map (st'.eval G)=args.toList.map (st.eval G):=List.map_congr_left λy hy=>h y (by simp[Op.operands,Call.operands];exact .inr (by simpa using hy));rw[hx,ha]
 .rfl
theorem b8y{o:Oper}{st':St}(h:∀x∈o.op.operands,st'.eval G x=st.eval G x):dK G o st'=dK G o st:=by
 unfold dK;split
 .rename_i x args ts oV;rw[oV]at h;have hx:=h x (by simp[Op.operands,Call.operands]);have ha:args.toList.map (st'.eval G)=args.toList.map (st.eval G):=List.map_congr_left λy hy=>h y (by simp[Op.operands,Call.operands];exact .inr (by simpa using hy));rw[hx,ha]
 .rfl
theorem a9l(ks:List Nat)(t:Tmp)(own:List (TypeId×List Loc)):mY ks (cZ (.t t) own)=mY ks own:=by
 unfold mY cZ;rw[List.all_map];congr 1;funext c;simp only[Function.comp]
 induction c.2 with
 |nil=>rfl
 |cons l r ih=>
  by_cases hl:l=.t t
  .subst hl;rw[List.filter_cons_of_neg (by simp),ih]
   rfl
  .rw[List.filter_cons_of_pos (by simp[hl]),List.all_cons,List.all_cons,ih]
theorem c4q(ks:List Nat)(s:Loc)(t:Tmp)(own:List (TypeId×List Loc)):mY ks (addAlias s (.t t) own)=mY ks own:=by
 unfold mY addAlias;rw[List.all_map];congr 1;funext c;simp only[Function.comp];split
 .rw[List.all_cons];rfl
 .rfl
theorem b0s(ks:List Nat)(dst:Option Tmp)(d:DV)(act:OA):mY ks (VM.finish st dst d act).own=mY ks st.own:=by
 cases dst with
 |none=>rfl
 |some t=>
  simp only[VM.finish];cases act with
  |no=>exact a9l ks t _
  |al l=>
   simp only[eO];split
   .rfl
   .rw[c4q,a9l]
  |fresh e=>
   simp only[eO];have:=a9l ks t st.own;unfold mY at this|-;rw[List.all_cons,this]
   rfl
theorem d4D{o:Oper}{x:FuncId×List DV}(h:dK G o st=some x):a4s o=true:=by
 unfold dK at h;unfold a4s;split at h
 .rename_i oV;rw[oV]
 .cases h
theorem QY.to{all:Array Oper}{o:Oper}{d:DV}{ac:OA}{st':St}(h:QY P G all o d ac st)(hq:dI o.op=true)(hw:eJ o all st'.tmps=eJ o all st.tmps)(he:∀x∈o.op.operands,st'.eval G x=st.eval G x)(hH:∀x∈o.op.operands,∀k,mentions k (st.eval G x)=true->getKey k st'.H=getKey k st.H)(hk:a4s o=true->∀k o,getKey k st.H=some o->getKey k st'.H=some o)(hn:a4s o=true->∀ks,(ks.all λk=>(getKey k st.H).isSome)=true->mY ks st.own=true->mY ks st'.own=true):QY P G all o d ac st':=by
 unfold QY at h|-;rw[hw,c1z he,b8y he,b9I hq he hH];rcases h with⟨h0,h|⟨h1,h2,h3⟩|⟨h1,f,g0U,ks,h2,h3,h4,h5,h6,h7,h8⟩⟩|h
 .exact .inl ⟨h0,.inl h⟩
 .exact .inl ⟨h0,.inr (.inl ⟨h1,h2,by rw[h3];rfl⟩)⟩
 .have hv:=d4D h2;have hks:∀k∈ks,getKey k st'.H=getKey k st.H:=λk wE=>by obtain⟨ob,hob⟩:=Option.isSome_iff_exists.1 (g0Z.1 h6 k wE);rw[hob];exact hk hv k ob hob
  refine .inl ⟨h0,.inr (.inr ⟨h1,f,g0U,ks,h2,h3,λs hs tS=>h4 s (λk wE=>(hs k wE).trans (hks k wE)) tS,hn hv ks h6 h5,g0Z.2 λk wE=>?_,h7,h8⟩)⟩;rw[hks k wE];exact g0Z.1 h6 k wE
 .exact .inr h
theorem QY.finish{all:Array Oper}{o:Oper}{d x:DV}{ac:OA}{dst:Option Tmp}{act:OA}(hq:dI o.op=true)(h:∀t,dst=some t->t ∉ o.looksAt all):QY P G all o d ac (VM.finish st dst x act)↔QY P G all o d ac st:=by
 have he:=a9k (G:=G) (st:=st) (d:=x) (act:=act) h;refine⟨λhy=>QY.to hy hq (bI h).symm (λy hy=>(he y hy).symm) (λ_ _ _ _=>by rw[a6c]) (λ_ k ob hk=>by rw[a6c]at hk;exact hk) (λ_ ks _ hn=>by rw[b0s]at hn;exact hn),
  λhy=>QY.to hy hq (bI h) he (λ_ _ _ _=>by rw[a6c]) (λ_ k ob hk=>by rw[a6c];exact hk) (λ_ ks _ hn=>by rw[b0s];exact hn)⟩
theorem c8b{all:Array Oper}{o:Oper}{K:St->Prop}(hq:dI o.op=true)(hal:oO all o=false):pC P G true all o K st↔∃d act,QY P G all o d act st/\K (finish st o.dst d (a8f all o act)):=by
 have a0v:∀d act,b0r true all o d act=a8f all o act:=λd act=>by simp[b0r,hq]
 have tS:a8f all o .no=.no:=by unfold a8f;split<;>rfl
 have hqn:∀a,a8f all o a=if true&& !uZ all o then .no else a:=λa=>by unfold a8f;cases uZ all o<;>rfl
 unfold pC QY;constructor
 .intro h;split at h
  .rename_i hw;rw[hw];split at h
   .rename_i f ds hc;rcases h with⟨r,own,⟨h1,h2⟩,h4,h3⟩|⟨h0,_⟩
    .exact⟨r,a6b own,.inl ⟨rfl,.inl ⟨f,ds,own,hc,h1,h2,h4 rfl,rfl⟩⟩,by rw[hqn];exact h3⟩
    .simp[tD,hal]at h0
   .rename_i hc;split at h
    .rename_i f g0U hch;simp only[a2y,tD,hal,Bool.not_false,Bool.true_or,Bool.and_self,if_true]at h;obtain⟨d,ks,⟨h1,h2,h3,h5,h6⟩,h4⟩:=h;exact⟨d,.no,.inl ⟨rfl,.inr (.inr ⟨hc,f,g0U,ks,hch,h1,h2,h3,h5,h6,rfl⟩)⟩,by rw[tS];exact h4⟩
    .rename_i hch;split at h
     .rename_i out ho;rw[a0v]at h;have hs:=c4o hq ho;obtain⟨v,act,s2⟩:=out;simp only at hs;subst hs;exact⟨v,act,.inl ⟨rfl,.inr (.inl ⟨hc,hch,ho⟩)⟩,h⟩
     .cases h
  .rename_i hw;exact⟨.cI [],.no,.inr ⟨hw,rfl,rfl⟩,by rw[tS];exact h⟩
  .cases h
 .rintro⟨d,act,(⟨hw,⟨f,ds,own,hc,h1,h2,h4,rfl⟩|⟨hc,hch,ho⟩|⟨hc,f,g0U,ks,hch,h1,h2,h3,h5,h6,rfl⟩⟩|⟨hw,rfl,rfl⟩),hk⟩
  .rw[hqn]at hk;rw[hw];simp only;rw[hc];exact .inl ⟨d,own,⟨h1,h2⟩,λ_=>h4,hk⟩
  .rw[hw];simp only;rw[hc];simp only;rw[hch];simp only;rw[ho];simp only;rw[a0v];exact hk
  .rw[tS]at hk;rw[hw];simp only;rw[hc];simp only;rw[hch];simp only[a2y,tD,hal,Bool.not_false,Bool.true_or,Bool.and_self,if_true];exact⟨d,ks,⟨h1,h2,h3,h5,h6⟩,hk⟩
  .rw[tS]at hk;rw[hw];exact hk
def c1A(all:Array Oper)(o:Oper)(a:OA):Prop:=a=.no\/(uZ all o=true/\∃e,a=.fresh e)\/∃l i,o.dst=some i/\uZ all o=true/\l≠ .t i/\(∀u,u ∉ o.looksAt all->l≠ .t u)/\a=.al l
theorem a2z(v:DV)(a:OA):tM v a=.no\/tM v a=a:=by
 unfold tM;split
 .exact .inr rfl
 .exact .inl rfl
theorem QY.act{all:Array Oper}{o:Oper}{d:DV}{act:OA}(h:QY P G all o d act st):c1A all o (a8f all o act):=by
 unfold a8f;split
 .rename_i hn;rcases h with⟨hw,⟨f,ds,own,hc,h1,h2,_,rfl⟩|⟨hc,hch,ho⟩|⟨hc,f,g0U,ks,hch,h1,h2,h3,_,_,rfl⟩⟩|⟨hw,rfl,rfl⟩
  .cases own with
   |none=>exact .inl rfl
   |some e=>exact .inr (.inl ⟨hn,e,rfl⟩)
  .obtain⟨dst,op,ty,pos,after,guard⟩:=o;have hn':=hn;unfold uZ at hn;split at hn
   .rename_i j i hg oV hd;simp only at hg oV hd;subst hg oV hd;simp only[g0W,bne_iff_ne]at hn;have:act=tM (st.eval G (.tmp j)) (.al (.t j)):=by simp only[mV,a3D,g1c,Out.mk.injEq]at ho;exact ho.2.1.symm
    rcases a2z (st.eval G (.tmp j)) (.al (.t j))with h1|h1
    .exact .inl (this.trans h1)
    .exact .inr (.inr ⟨.t j,i,rfl,hn',λe=>hn.1 (by cases e;rfl),λu hu e=>hu (by cases e;simp[Oper.looksAt,Op.operands]),this.trans h1⟩)
   .rename_i j i hg oV hd;simp only at hg oV hd;subst hg oV hd;simp only[g0W,bne_iff_ne]at hn;have:act=tM (st.eval G (.tmp j)) (.al (.t j)):=by simp only[mV,a3D,g1c,Out.mk.injEq]at ho;exact ho.2.1.symm
    rcases a2z (st.eval G (.tmp j)) (.al (.t j))with h1|h1
    .exact .inl (this.trans h1)
    .exact .inr (.inr ⟨.t j,i,rfl,hn',λe=>hn.1 (by cases e;rfl),λu hu e=>hu (by cases e;simp[Oper.looksAt,Op.operands]),this.trans h1⟩)
   .rename_i ty' j i hg oV hd;simp only at hg oV hd;subst hg oV hd;simp only[mV,b2S]at ho;split at ho
    .rename_i k off _;split at ho
     .rename_i cs hk;obtain⟨y,_,he⟩:=g0V.1 ho;simp only[Out.mk.injEq]at he;have:act=tM y (.al (.c k off)):=he.2.1.symm;rcases a2z y (.al (.c k off))with h1|h1
      .exact .inl (this.trans h1)
      .exact .inr (.inr ⟨.c k off,i,rfl,hn',(by simp),(λu _=>by simp),this.trans h1⟩)
     .cases ho
    .obtain⟨y,_,he⟩:=g0V.1 ho;simp only[Out.mk.injEq]at he;exact .inl he.2.1.symm
    .cases ho
   .rename_i cl x i hg oV hd;simp only at hg oV hd;subst hg oV hd;simp[mV]at ho
   .rename_i t n ps i hg oV hd;simp only at hg oV hd;subst hg oV hd;simp only[mV,tN]at ho;split at ho
    .split at ho
     .simp only[g1c,Out.mk.injEq]at ho;exact .inr (.inl ⟨hn',_,ho.2.1.symm⟩)
     .cases ho
    .cases ho
   .cases hn
  .exact .inl rfl
  .exact .inl rfl
 .exact .inl rfl
theorem rS(x y:Loc)(own:List (TypeId×List Loc)):cZ x (cZ y own)=cZ y (cZ x own):=by simp only[cZ,List.map_map];refine List.map_congr_left λc _=>?_;simp only[Function.comp,List.filter_filter];congr 1;refine List.filter_congr λl _=>?_;rw[Bool.and_comm]
theorem a8r{x l:Loc}(h:l≠x)(c:List Loc):(c.filter λy=>decide (y≠x)).contains l=c.contains l:=by rw[Bool.eq_iff_iff];simp only[List.contains_iff_mem,List.mem_filter,decide_eq_true_eq];exact⟨λh=>h.1,λh'=>⟨h',h⟩⟩
theorem b5s{s t x:Loc}(h1:s≠x)(h2:t≠x)(own:List (TypeId×List Loc)):addAlias s t (cZ x own)=cZ x (addAlias s t own):=by
 simp only[addAlias,cZ,List.map_map];refine List.map_congr_left λc _=>?_;simp only[Function.comp,a8r h1];split
 .simp[h2]
 .rfl
theorem c4r{l:Loc}{t u:Tmp}(h1:t≠u)(h2:l≠ .t u)(h3:l≠ .t t)(own:List (TypeId×List Loc)):eO (.t u) .no (eO (.t t) (.al l) own)=eO (.t t) (.al l) (eO (.t u) .no own):=by have ht:(.t t:Loc)≠ .t u:=λe=>h1 (by cases e;rfl);simp only[eO];rw[if_neg h3,if_neg h3, <- b5s h2 ht,rS]
theorem a9m{e:TypeId}{t u:Tmp}(h1:t≠u)(own:List (TypeId×List Loc)):eO (.t u) .no (eO (.t t) (.fresh e) own)=eO (.t t) (.fresh e) (eO (.t u) .no own):=by have ht:(.t t:Loc)≠ .t u:=λe=>h1 (by cases e;rfl);simp only[eO];rw[rS (.t t)];simp[cZ,ht]
theorem a0e{all:Array Oper}{x y:Oper}{d e:DV}{ax ay:OA}(h:∀t,x.dst=some t->y.dst≠some t)(hx:∀t,x.dst=some t->t ∉ y.looksAt all)(hy:∀t,y.dst=some t->t ∉ x.looksAt all)(hn:(uZ all x&&uZ all y)=false)(sx:c1A all x ax)(sy:c1A all y ay):
  finish (finish st x.dst d ax) y.dst e ay=finish (finish st y.dst e ay) x.dst d ax:=by
 cases hxd:x.dst with
 |none=>cases y.dst<;>rfl
 |some t=>
  cases hyd:y.dst with
  |none=>rfl
  |some u=>
   have eU:t≠u:=λhe=>h t hxd (he▸hyd);simp only[finish];rw[List.set_comm _ _ eU];congr 1;rcases sx with rfl|⟨q2,e,rfl⟩|⟨l,i,q1,q2,q3,q4,rfl⟩
   .rcases sy with rfl|⟨q2,e,rfl⟩|⟨l,i,q1,q2,q3,q4,rfl⟩
    .exact rS _ _ _
    .exact(a9m (Ne.symm eU) _).symm
    .rw[hyd]at q1;cases q1;exact(c4r (Ne.symm eU) (q4 t (hx t hxd)) q3 _).symm
   .rcases sy with rfl|⟨p2,e',rfl⟩|⟨l',i',p1,p2,p3,p4,rfl⟩
    .exact a9m eU _
    .rw[q2,p2]at hn;cases hn
    .rw[q2,p2]at hn;cases hn
   .rw[hxd]at q1;cases q1;rcases sy with rfl|⟨p2,e',rfl⟩|⟨l',i',p1,p2,p3,p4,rfl⟩
    .exact c4r eU (q4 u (hy u hyd)) q3 _
    .rw[q2,p2]at hn;cases hn
    .rw[q2,p2]at hn;cases hn
def b5t(P:Program)(G:GT)(ops:Array Oper)(Q:St->Prop):Nat->Array Bool->St->Prop
 |0,listed,st=>Region.ready .any ops listed=[]/\Q st
 |fuel+1,listed,st=>(Region.ready .any ops listed=[]->Q st)/\∀i∈Region.ready .any ops listed,match ops[i]? with
  |none=>b5t P G ops Q fuel (listed.setIfInBounds i true) st
  |some o=>pC P G true ops o (b5t P G ops Q fuel (listed.setIfInBounds i true)) st
theorem b4O{ops:Array Oper}{Q:St->Prop}{QQ:Exit->Act->World->Prop}:∀(fuel:Nat) (listed:Array Bool) (st:St),b5t P G ops Q fuel listed st->∀(base:dH) (R:Nat->Nat->Prop) (μ:Nat->Nat) (a:Act) (w:World),Rel P G base R μ st a w->
  (∀s a' w' R' μ',Q s->Rel P G base R' μ' s a' w'->Step base R w R' w'->QQ .normal a' w')->wpAny P .any ops QQ fuel listed a w
 |0,_,st,h,base,R,μ,a,w,hr,hk=>⟨h.1,hk st a w R μ h.2 hr (.refl _ _ _)⟩
 |fuel+1,listed,st,h,base,R,μ,a,w,hr,hk=>by
  refine⟨λh0=>hk st a w R μ (h.1 h0) hr (.refl _ _ _),λi hi=>?_⟩;have h1:=h.2 i hi;unfold wpOp;split
  .rename_i ho;rw[ho]at h1;exact b4O fuel _ st h1 base R μ a w hr hk
  .rename_i o ho;rw[ho]at h1;exact tE h1 hr λs v w' R' μ' h' gD rE=>b4O fuel _ s h' base R' μ' _ w' gD λs a' w2 R2 μ2 q1 q2 q3=>hk s a' w2 R2 μ2 q1 q2 (rE.trans q3)
def gF(ops:Array Oper)(listed:Array Bool):Prop:=∀k,listed.getD k false=true->∀o,ops[k]? =some o->∀e∈o.after,Region.binds .any e=true->listed.getD e.on false=true
theorem d9W{listed:Array Bool}{i:Nat}(h0:listed.getD i true=false)(h1:listed.getD i false=true):False:=by
 rcases Nat.lt_or_ge i listed.size with h'|h'
 .simp[h']at h0 h1;rw[h0]at h1;cases h1
 .simp[Array.getElem?_eq_none h']at h1
theorem d4E{es:List Edge}{n i:Nat}{rows:List Nat}:∀(acc:Nat),(es.foldl (λacc e=>if Region.binds .any e=true/\e.on<n then acc |||((1 <<<e.on) |||rows.getD (n-1-e.on) 0) else acc) acc).testBit i=true->
  acc.testBit i=true\/∃e∈es,Region.binds .any e=true/\e.on<n/\(e.on=i\/(rows.getD (n-1-e.on) 0).testBit i=true):=by
 induction es with
 |nil=>intro acc h;exact .inl h
 |cons e es ih=>
  intro acc h;simp only[List.foldl_cons]at h;rcases ih _ h with h|⟨e',h1,h2⟩
  .split at h
   .rename_i hb;rw[Nat.testBit_or,g1i,Nat.testBit_or,g1i]at h;rcases h with h|h|h
    .exact .inl h
    .rw[Nat.testBit_shiftLeft]at h;simp only[g0W,decide_eq_true_eq]at h;have:i-e.on=0:=by
      have h2:=h.2;cases hx:i-e.on with
      |zero=>rfl
      |succ m=>rw[hx,Nat.testBit_succ]at h2;simp at h2
     exact .inr ⟨e,.head _,hb.1,hb.2,.inl (by omega)⟩
    .exact .inr ⟨e,.head _,hb.1,hb.2,.inr h⟩
   .exact .inl h
  .exact .inr ⟨e',.tail _ h1,h2⟩
theorem d1F(o:Oper)(r:List Oper)(n:Nat)(rows:List Nat):rowsOf (o::r) n rows=rowsOf r (n+1) ((o.after.toList.foldl (λacc e=>if Region.binds .any e=true/\e.on<n then acc |||((1 <<<e.on) |||rows.getD (n-1-e.on) 0) else acc) 0)::rows):=by rw[rowsOf];generalize (o.after.toList.foldl (λacc e=>if Region.binds .any e=true/\e.on<n then acc |||((1 <<<e.on) |||rows.getD (n-1-e.on) 0) else acc) 0)=m;cases m<;>rfl
theorem b5u{ops:Array Oper}{i:Nat}:∀(l:List Oper) (n:Nat) (rows:List Nat),rows.length=n->(∀j,l[j]? =ops[n+j]?)->
  (∀k,k<n->(rows.getD (n-1-k) 0).testBit i=true->∃o,ops[k]? =some o/\∃e∈o.after,Region.binds .any e=true/\(e.on=i\/(e.on<k/\(rows.getD (n-1-e.on) 0).testBit i=true)))->
  ∀k,k<n+l.length->((rowsOf l n rows).getD (n+l.length-1-k) 0).testBit i=true->∃o,ops[k]? =some o/\∃e∈o.after,Region.binds .any e=true/\(e.on=i\/(e.on<k/\((rowsOf l n rows).getD (n+l.length-1-e.on) 0).testBit i=true))
 |[],n,rows,_,_,h=>h
 |o::r,n,rows,hlen,hl,h=>by
  rw[d1F];generalize pZ:(o.after.toList.foldl (λacc e=>if Region.binds .any e=true/\e.on<n then acc |||((1 <<<e.on) |||rows.getD (n-1-e.on) 0) else acc) 0)=row;have hlc:n+(o::r).length=(n+1)+r.length:=by simp;omega
  rw[hlc];have old:∀m,m<n->(row::rows).getD (n+1-1-m) 0=rows.getD (n-1-m) 0:=λm hm=>by
   have:n+1-1-m=(n-1-m)+1:=by omega
   rw[this];rfl
  refine b5u r (n+1) (row::rows) (by simp[hlen]) (λj=>by have:=hl (j+1);simpa[Nat.add_assoc,Nat.add_comm 1 j]using this) λk hk hb=>?_;by_cases hkn:k<n
  .rw[old k hkn]at hb;obtain⟨o1,h1,e,h2,h3,h4⟩:=h k hkn hb;refine⟨o1,h1,e,h2,h3,?_⟩;rcases h4 with h4|⟨h4,h5⟩
   .exact .inl h4
   .exact .inr ⟨h4,by rw[old e.on (by omega)];exact h5⟩
  .have:k=n:=by omega
   subst this;have h0:k+1-1-k=0:=by omega
   rw[h0]at hb;simp only[List.getD_cons_zero]at hb;rw[<-pZ]at hb;rcases d4E 0 hb with hz|⟨e,h1,h2,h3,h4⟩
   .simp at hz
   .refine⟨o,by simpa using (hl 0).symm,e,by simpa using h1,h2,?_⟩;rcases h4 with h4|h4
    .exact .inl h4
    .exact .inr ⟨h3,by rw[old e.on h3];exact h4⟩
theorem dL{ops:Array Oper}{listed:Array Bool}{i:Nat}(hc:gF ops listed)(hi:listed.getD i true=false)(n:Nat):∀(k:Nat),(∀o,ops[k]? =some o->∀e∈o.after,Region.binds .any e=true->listed.getD e.on false=true)->jL ops n k i=false:=by
 intro k
 induction k using Nat.strongRecOn with
 |_ k ih=>
  intro hk;cases hb:jL ops n k i with
  |false=>rfl
  |true=>
   unfold jL at hb;rw[g0W,decide_eq_true_eq]at hb;obtain⟨aF,hb⟩:=hb;have jZ:0+ops.toList.length=ops.size:=by simp
   obtain⟨o,ho,e,he,hbd,h⟩:=b5u (ops:=ops) ops.toList 0 [] rfl (by simp) (λk hk=>absurd hk (Nat.not_lt_zero _)) k (by omega) (by rw[jZ];exact hb);have h1:=hk o ho e he hbd;rcases h with h|⟨h2,h3⟩
   .exact(d9W hi (h▸h1)).elim
   .have:=ih e.on h2 λo' wD=>hc e.on h1 o' wD;unfold jL at this;rw[jZ]at h3;rw[h3,Bool.and_true,decide_eq_false_iff_not]at this;exact absurd (Nat.lt_trans h2 aF) this
theorem gF.set{ops:Array Oper}{listed:Array Bool}{j:Nat}(hc:gF ops listed)(hj:j∈Region.ready .any ops listed):gF ops (listed.setIfInBounds j true):=by
 intro k hk o ho e he hb;by_cases hjk:j=k
 .subst hjk;obtain⟨_,o',wD,dR⟩:=mem_ready.1 hj;rw[ho]at wD;cases wD;exact getD_set_true (dR e he hb)
 .rw[getD_set_ne false hjk]at hk;exact getD_set_true (hc k hk o ho e he hb)
theorem wH{ops:Array Oper}{o:Oper}{k j:Nat}(h:oO ops o=true)(hk:ops[k]? =some o)(hj:j<ops.size)(eU:j≠k):jL ops ops.size j k=true\/jL ops ops.size k j=true:=by have h1:=g0Z.1 h k (List.mem_range.2 (g1f.1 hk).1);simp only[hk,bne_self_eq_false,Bool.false_or]at h1;have h2:=g0Z.1 h1 j (List.mem_range.2 hj);simpa[eU,or_assoc]using h2
theorem a0Q{k:Nat}{d:DV}(h:pK d=true):mentions k d=false:=by cases d<;>first|rfl|cases h
theorem c1B(k:Nat)(v:Value):mentions k (ofConst v)=false:=by
 unfold ofConst;split
 .split<;>rfl
 .split<;>rfl
theorem oP{k:Nat}(h:cR k st=true):(∀v∈st.tmps,mentions k v=false)/\(∀p∈st.H,p.1≠k/\uK k p.2=true)/\(∀c∈st.own,∀l∈c.2,l.a0a k=false):=by unfold cR at h;simp only[g0W,g0Z,bne_iff_ne,ne_eq,Bool.not_eq_true']at h;exact⟨h.1.1,h.1.2,h.2⟩
theorem a1G{k:Nat}(h1:∀v∈st.tmps,mentions k v=false)(h2:∀p∈st.H,p.1≠k/\uK k p.2=true)(h3:∀c∈st.own,∀l∈c.2,l.a0a k=false):cR k st=true:=by unfold cR;simp only[g0W,g0Z,bne_iff_ne,ne_eq,Bool.not_eq_true'];exact⟨⟨h1,h2⟩,h3⟩
theorem uL{k:Nat}(h:cR k st=true)(x:Operand):mentions k (st.eval G x)=false:=by
 cases x with
 |tmp t=>
  simp only[St.eval,List.getD];cases ht:st.tmps[t]? with
  |none=>rfl
  |some v=>exact(oP h).1 v (g1b ht)
 |const v=>exact c1B k v
 |global g=>simp only[St.eval];split<;>rfl
 |func f=>rfl
theorem a6d{k:Nat}{o:bD}:∀ {H:List (Nat×bD)},getKey k H=some o->(k,o)∈H
 |[],h=>by simp[getKey]at h
 |(k',o')::r,h=>by
  unfold getKey at h;split at h
  .rename_i he;cases h;subst he;exact .head _
  .exact .tail _ (a6d h)
theorem a0R{k:Nat}(h:cR k st=true):getKey k st.H=none:=by
 cases hk:getKey k st.H with
 |none=>rfl
 |some o=>exact absurd rfl ((oP h).2.1 _ (a6d hk)).1
theorem c4s{k k':Nat}{cs:List DV}(h:cR k st=true)(hk:getKey k' st.H=some (.cells cs)):∀c∈cs,mentions k c=false:=λc hc=>by have:=((oP h).2.1 _ (a6d hk)).2;simp only[uK,g0Z,Bool.not_eq_true']at this;exact this c hc
theorem c8c{k:Nat}{t:TypeId}{cs:List DV}{y:DV}(hc:∀c∈cs,mentions k c=false)(h:b2R P t cs=some y):mentions k y=false:=by
 unfold b2R at h;split at h
 .split at h
  .split at h
   .rcases b2U h with⟨ds,_,rfl⟩|⟨_,rfl⟩
    .rfl
    .exact a5o λc hc'=>hc c (List.mem_of_mem_take hc')
   .cases h
  .exact hc y (List.mem_of_head? h)
 .cases h
where
 a5o {k:Nat}:∀ {cs:List DV},(∀c∈cs,mentions k c=false)->oT k cs=false
  |[],_=>rfl
  |c::r,h=>by simp only[oT,h c (.head _),a5o λx hx=>h x (.tail _ hx),Bool.or_false]
theorem a6e{k:Nat}:∀ {cs:List DV},(∀c∈cs,mentions k c=false)->oT k cs=false
 |[],_=>rfl
 |c::r,h=>by simp only[oT,h c (.head _),a6e λx hx=>h x (.tail _ hx),Bool.or_false]
theorem b3a{k:Nat}{d:DV}{cs:List DV}(h:mentions k d=false)(hc:wB d=some cs):∀c∈cs,mentions k c=false:=by
 cases d with
 |d y=>cases hc;intro c hc;obtain⟨z,_,rfl⟩:=List.mem_map.1 hc;rfl
 |ag wF=>obtain⟨_,rfl⟩:=b2a hc;intro c hc;obtain⟨i,hi⟩:=g1n hc;exact tC (by simpa[mentions]using h) i c hi
 |undef=>cases hc
 |it _=>cases hc
 |cI _=>cases hc
 |zY _=>cases hc
 |_=>cases hc;intro c hc;simp only[g1d]at hc;subst hc;exact h
theorem b3b{k:Nat}(h:cR k st=true):∀ {l:List (Nat×Operand)} {ps:List (Nat×List DV)},a0t G st l=some ps->∀p∈ps,∀c∈p.2,mentions k c=false
 |[],ps,hp=>by simp[a0t]at hp;subst hp;simp
 |(i,x)::l,ps,hp=>by
  simp only[a0t]at hp;split at hp
  .rename_i y ds hy hds;simp at hp;subst hp;intro p hpm;rcases List.mem_cons.1 hpm with rfl|hpm
   .exact b3a (uL h x) hy
   .exact b3b h hds p hpm
  .cases hp
theorem b9J{k:Nat}{cs ys:List DV}{off:Nat}(h1:∀c∈cs,mentions k c=false)(h2:∀c∈ys,mentions k c=false):∀c∈overwrite cs off ys,mentions k c=false:=λc hc=>by
 unfold overwrite at hc;simp only[List.mem_append]at hc;rcases hc with(hc|hc)|hc
 .exact h1 c (List.mem_of_mem_take hc)
 .exact h2 c hc
 .exact h1 c (List.mem_of_mem_drop hc)
theorem b5v{k:Nat}{t:TypeId}:∀ {ps:List (Nat×List DV)} {z r:List DV},(∀c∈z,mentions k c=false)->(∀p∈ps,∀c∈p.2,mentions k c=false)->b0i P t z ps=some r->∀c∈r,mentions k c=false
 |[],z,r,hz,_,h=>by simp[b0i]at h;subst h;exact hz
 |(i,v)::ps,z,r,hz,hp,h=>by
  simp only[b0i]at h;split at h
  .cases h
  .split at h
   .exact b5v (b9J hz (hp _ (.head _))) (λp hpm=>hp p (.tail _ hpm)) h
   .cases h
theorem c4t(k:Nat)(v:Value):mentions k (cellOf v)=false:=by unfold cellOf;split<;>rfl
theorem c8d(t:TypeId)(k:Nat)(v:Value):mentions k (a2r t v)=false:=by
 unfold a2r;split
 .rfl
 .split<;>rfl
theorem c8e{k:Nat}{t:TypeId}{z:List DV}(h:c3Q P t=some z):∀c∈z,mentions k c=false:=by
 unfold c3Q at h;obtain⟨v,_,h2⟩:=g1k.1 h;split at h2
 .cases h2;intro c hc;obtain⟨y,_,rfl⟩:=List.mem_map.1 hc;exact c4t k y
 .cases h2
theorem c8f{k:Nat}{t:TypeId}{z:List DV}(h:c3P P t=some z):∀c∈z,mentions k c=false:=by unfold c3P at h;obtain⟨v,_,rfl⟩:=g0V.1 h;intro c hc;obtain⟨y,_,rfl⟩:=List.mem_map.1 hc;exact c8d _ k y
theorem c4u{o:Oper}(hq:dI o.op=true){k:Nat}(hf:cR k st=true)(h:mV P G o st=some out):mentions k out.v=false:=by
 obtain⟨dst,op,ty,pos,after,guard⟩:=o;have he:∀x:Operand,mentions k (st.eval G x)=false:=uL hf;cases op<;>simp only[dI]at hq<;>try cases hq
 case move x=>simp only[mV,a3D,g1c]at h;subst h;exact he x
 case assign x=>simp only[mV,a3D,g1c]at h;subst h;exact he x
 case pick c a b=>
  simp only[mV,b5a]at h;split at h
  .simp only[g1c]at h;subst h;simp only;split
   .exact he a
   .exact he b
  .cases h
 case build t ps=>
  simp only[mV,a8W]at h;split at h
  .split at h
   .obtain⟨c,_,rfl⟩:=g0V.1 h;rfl
   .unfold a7s at h;split at h
    .rename_i z qs hz hps;obtain⟨cs,rI,rfl⟩:=g0V.1 h;exact a6e (b5v (c8e hz) (b3b hf hps) rI)
    .cases h
  .cases h
 case buildSlice t n ps=>
  simp only[mV,tN]at h;split at h
  .split at h
   .simp only[g1c]at h;subst h;rfl
   .cases h
  .cases h
 case load t x=>
  simp only[mV,b2S]at h;split at h
  .split at h
   .rename_i cs hk;obtain⟨y,hy,rfl⟩:=g0V.1 h;exact c8c (λc hc=>c4s hf hk c (List.mem_of_mem_drop hc)) hy
   .cases h
  .obtain⟨y,_,rfl⟩:=g0V.1 h;rfl
  .cases h
 case nilCheck x=>have:=he x;simp only[mV,wN]at h;split at h<;>first|(cases h;done)|(rename_i hx;rw[hx]at this;simp only[g1c]at h;subst h;exact this)
 case binOp op t x y u=>
  simp only[mV,b5b,a1t,c7I]at h;split at h
  .split at h<;>first|(cases h;done)|(simp only[g1c]at h;subst h;simp only;first|rfl|(split<;>rfl))
  .split at h
   .obtain⟨c,_,rfl⟩:=g0V.1 h;rfl
   .cases h
 case unOp op t x=>
  simp only[mV,vUn]at h;split at h
  .obtain⟨c,_,rfl⟩:=g0V.1 h;rfl
  .cases h
 case convert src dst x=>
  simp only[mV,b5c]at h;split at h
  .obtain⟨c,_,rfl⟩:=g0V.1 h;rfl
  .cases h
 case lookup t m k ok=>
  simp only[mV,a7t]at h;split at h
  .split at h
   .obtain⟨c,_,rfl⟩:=g0V.1 h;simp only;split<;>rfl
   .cases h
  .cases h
 case extract x i=>
  simp only[mV,a1v]at h;split at h
  .obtain⟨c,_,rfl⟩:=g0V.1 h;rfl
  .cases h
 case field t x i=>
  simp only[mV,a8X]at h;split at h
  .obtain⟨c,_,rfl⟩:=g0V.1 h;rfl
  .cases h
 case index t x i=>
  simp only[mV,a8Y]at h;split at h
  .obtain⟨j,_,h⟩:=g1k.1 h;obtain⟨c,_,rfl⟩:=g0V.1 h;rfl
  .obtain⟨j,_,h⟩:=g1k.1 h;obtain⟨c,_,rfl⟩:=g0V.1 h;rfl
  .cases h
 case indexAddr t x i=>
  have hx:=he x;simp only[mV,tO]at h;split at h
  .obtain⟨j,_,h⟩:=g1k.1 h;obtain⟨c,_,h⟩:=g1k.1 h;split at h
   .simp only[g1c]at h;subst h;rfl
   .cases h
  .rename_i hxe _;split at h
   .cases h
   .obtain⟨j,_,rfl⟩:=g0V.1 h;rw[hxe]at hx;exact hx
  .split at h
   .cases h
   .obtain⟨j,_,rfl⟩:=g0V.1 h;rfl
  .cases h
 case fieldAddr t x i=>
  have hx:=he x;simp only[mV,tP]at h;split at h
  .split at h
   .cases h
   .split at h
    .rename_i hxe;simp only[g1c]at h;subst h;rw[hxe]at hx;exact hx
    .simp only[g1c]at h;subst h;rfl
    .cases h
  .cases h
 case slice t x lo hi mx=>
  simp only[mV,a8Z]at h;split at h
  .obtain⟨j,_,h⟩:=g1k.1 h;obtain⟨c,_,rfl⟩:=g0V.1 h;rfl
  .split at h
   .obtain⟨j,_,h⟩:=g1k.1 h;obtain⟨c,_,rfl⟩:=g0V.1 h;rfl
   .cases h
  .split at h
   .obtain⟨j,_,h⟩:=g1k.1 h;obtain⟨c,_,rfl⟩:=g0V.1 h;rfl
   .cases h
  .split at h
   .simp only[g1c]at h;subst h;rfl
   .cases h
  .split at h
   .simp only[g1c]at h;subst h;rfl
   .cases h
  .cases h
 case call c=>
  obtain⟨callee,args,ts⟩:=c;cases callee with
  |value f=>simp[mV]at h
  |invoke r m=>simp at hq
  |builtin b=>
   simp only[mV,tQ]at h;split at h
   .simp only[d1n]at h;split at h
    .simp only[g1c]at h;subst h;rfl
    .simp only[g1c]at h;subst h;rfl
    .simp only[g1c]at h;subst h;rfl
    .split at h
     .simp only[g1c]at h;subst h;rfl
     .cases h
    .cases h
   .simp at hq
   .simp at hq
   .simp only[d1o]at h;split at h
    .simp only[g1c]at h;subst h;rfl
    .cases h
   .simp only[d1p]at h;split at h
    .simp only[g1c]at h;subst h;rfl
    .cases h
   .cases h
theorem cL{k:Nat}{dst:Option Tmp}{v:DV}{act:OA}(h:cR k st=true)(hv:mentions k v=false):cR k (finish st dst v act)=true:=by
 obtain⟨h1,h2,h3⟩:=oP h;cases dst with
 |none=>exact h
 |some d=>
  refine a1G (λu hu=>?_) h2 (λc hc l hl=>?_)
  .rcases List.mem_or_eq_of_mem_set hu with hu|rfl
   .exact h1 u hu
   .exact hv
  .have drop:∀c∈cZ (.t d) st.own,∀l∈c.2,l.a0a k=false:=λc hc l hl=>by obtain⟨c0,yI,rfl⟩:=List.mem_map.1 hc;exact h3 c0 yI l (List.mem_filter.1 hl).1
   simp only[finish]at hc;cases act with
   |no=>exact drop c hc l hl
   |al l0=>
    simp only[eO]at hc;split at hc
    .exact h3 c hc l hl
    .unfold addAlias at hc;obtain⟨c0,yI,rfl⟩:=List.mem_map.1 hc;split at hl
     .rcases List.mem_cons.1 hl with rfl|hl
      .rfl
      .exact drop c0 yI l hl
     .exact drop c0 yI l hl
   |fresh e=>
    simp only[eO]at hc;rcases List.mem_cons.1 hc with rfl|hc
    .simp only[g1d]at hl;subst hl;rfl
    .exact drop c hc l hl
theorem QY.free{all:Array Oper}{o:Oper}{d:DV}{act:OA}{k:Nat}(hq:dI o.op=true)(h:QY P G all o d act st)(hf:cR k st=true):mentions k d=false:=by
 rcases h with⟨_,⟨f,ds,own,_,_,_,hk,_⟩|⟨_,_,ho⟩|⟨_,f,g0U,ks,_,_,_,_,_,hk,_⟩⟩|⟨_,rfl,_⟩
 .exact a0Q hk
 .exact c4u hq hf ho
 .exact a0Q hk
 .rfl
theorem gG{o:Oper}(h:(isApp o||eW o)=true):qH o=true:=by unfold qH;rw[h];rfl
theorem jT{o:Oper}(h:qH o=true):kB G o st=none/\dK G o st=none/\dI o.op=false/\a4s o=false:=by
 obtain⟨dst,op,ty,pos,after,guard⟩:=o;cases op with
 |call c=>
  obtain⟨callee,args,ts⟩:=c;cases callee with
  |builtin b=>cases b<;>first|exact⟨rfl,rfl,rfl,rfl⟩|(simp[qH,isApp,eW,b4e]at h)
  |_=>simp[qH,isApp,eW,b4e]at h
 |alloc e=>exact⟨rfl,rfl,rfl,rfl⟩
 |store _ _ _=>exact⟨rfl,rfl,rfl,rfl⟩
 |_=>simp[qH,isApp,eW,b4e]at h
def Eff(P:Program)(G:GT)(all:Array Oper)(o:Oper)(st s:St):Prop:=
 (dI o.op=true/\∃d act,QY P G all o d act st/\s=finish st o.dst d (a8f all o act))\/
 (qH o=true/\((eJ o all st.tmps=some true/\∃out,mV P G o st=some out/\s=finish out.st o.dst out.v out.act)\/(eJ o all st.tmps=some false/\s=finish st o.dst (.cI []) .no)))
theorem dY{all:Array Oper}{o:Oper}{K:St->Prop}(h:(dI o.op=true/\oO all o=false)\/qH o=true):pC P G true all o K st↔∃s,Eff P G all o st s/\K s:=by
 rcases h with⟨hq,hal⟩|hs
 .rw[c8b hq hal];constructor
  .rintro⟨d,act,h1,h2⟩;exact⟨_,.inl ⟨hq,d,act,h1,rfl⟩,h2⟩
  .rintro⟨s,⟨_,d,act,h1,rfl⟩|⟨hs,_⟩,h2⟩
   .exact⟨d,act,h1,h2⟩
   .rw[(jT (G:=G) (st:=st) hs).2.2.1]at hq;cases hq
 .obtain⟨h1,h2,h3,_⟩:=jT (G:=G) (st:=st) hs;have a0v:∀d act,b0r true all o d act=act:=λd act=>by simp[b0r,h3]
  unfold pC;rw[h1,h2];simp only;constructor
  .intro h;split at h
   .rename_i hw;split at h
    .rename_i out ho;rw[a0v]at h;exact⟨_,.inr ⟨hs,.inl ⟨hw,out,ho,rfl⟩⟩,h⟩
    .cases h
   .rename_i hw;exact⟨_,.inr ⟨hs,.inr ⟨hw,rfl⟩⟩,h⟩
   .cases h
  .rintro⟨s,⟨hq,_⟩|⟨_,⟨hw,out,ho,rfl⟩|⟨hw,rfl⟩⟩,hk⟩
   .rw[h3]at hq;cases hq
   .rw[hw];simp only;rw[ho];simp only;rw[a0v];exact hk
   .rw[hw];exact hk
theorem eS{x y:Option Tmp}{d e:DV}{a:OA}(h:∀t,x=some t->y≠some t)(ha:a=.no\/∃k,a=.fresh k):finish (finish st x d .no) y e a=finish (finish st y e a) x d .no:=by
 cases x with
 |none=>cases y<;>rfl
 |some t=>
  cases y with
  |none=>rfl
  |some u=>
   have eU:t≠u:=λhe=>h t rfl (he▸rfl);simp only[finish];rw[List.set_comm _ _ eU];congr 1;rcases ha with rfl|⟨k,rfl⟩
   .exact rS _ _ _
   .exact(a9m (Ne.symm eU) _).symm
theorem b0t{l x:Loc}(h:l≠x):∀own:List (TypeId×List Loc),jD l (cZ x own)=(jD l own).map λp=>(p.1,cZ x p.2)
 |[]=>rfl
 |c::r=>by
  have hc:=a8r h c.2;have ih:=b0t h r;unfold cZ at ih|-;simp only[List.map_cons,jD,hc];split
  .rfl
  .rw[ih];cases jD l r<;>rfl
theorem b3c{l:Loc}:∀ {own:List (TypeId×List Loc)} {e:TypeId} {eP:List (TypeId×List Loc)},jD l own=some (e,eP)->∀c∈eP,c∈own
 |c::r,e,eP,h,x,hx=>by
  unfold jD at h;split at h
  .cases h;exact .tail _ hx
  .obtain⟨p,hp,he⟩:=g0V.1 h;cases he;rcases List.mem_cons.1 hx with rfl|hx
   .exact .head _
   .exact .tail _ (b3c hp x hx)
theorem a0f{o:Oper}(h:isApp o=true)(ho:mV P G o st=some out):(∃e,out.act=.fresh e)/\(∃es,out.v=.d (.sl es))/\∃eP,out.st={st with own:=eP}/\∀c∈eP,c∈st.own:=by
 obtain⟨dst,op,ty,pos,after,guard⟩:=o;cases op with
 |call c=>
  obtain⟨callee,args,ts⟩:=c;cases callee with
  |builtin b=>
   cases b<;>simp[isApp]at h;simp only[mV,tQ]at ho;split at ho
   .rename_i h1 _ _;cases h1
   .unfold a4j at ho;split at ho
    .split at ho
     .split at ho
      .split at ho
       .simp only[g1c]at ho;subst ho;exact⟨⟨_,rfl⟩,⟨_,rfl⟩,st.own,rfl,λ_ h=>h⟩
       .cases ho
      .split at ho
       .rename_i e' eP ht;split at ho
        .simp only[g1c]at ho;subst ho;exact⟨⟨_,rfl⟩,⟨_,rfl⟩,eP,rfl,b3c ht⟩
        .cases ho
       .cases ho
      .cases ho
     .cases ho
    .cases ho
   .rename_i h1 _ _;cases h1
   .rename_i h1 _;cases h1
   .rename_i h1 _;cases h1
   .cases ho
  |_=>simp[isApp]at h
 |_=>simp[isApp]at h
theorem yU{all:Array Oper}{o:Oper}(h:isApp o=true){dst:Option Tmp}{d:DV}(hl:∀t,dst=some t->t ∉ o.looksAt all):mV P G o (finish st dst d .no)=(mV P G o st).map λout=>⟨out.v,out.act,finish out.st dst d .no⟩:=by
 have he:=a9k (G:=G) (st:=st) (d:=d) (act:=.no) hl;obtain⟨f3W,op,ty,pos,after,guard⟩:=o;cases op with
 |call c=>
  obtain⟨callee,args,ts⟩:=c;cases callee with
  |builtin b=>
   cases b<;>simp[isApp]at h;have mem:∀ {x:Operand} {l:List Operand},args.toList=l->x∈l->(finish st dst d .no).eval G x=st.eval G x:=λhl hx=>he _ (by simp only[Op.operands,Call.operands];rw[<-Array.mem_toList_iff];simp[hl,hx]);simp only[mV,tQ];split
   .rename_i h1 _ _;cases h1
   .rename_i s x t' t'' _ heq _;have hs:=mem heq (x:=s) (by simp);have hx:=mem heq (x:=x) (by simp);simp only[a4j,hs,hx];split
    .split
     .split
      .split
       .rfl
       .rfl
      .rename_i xs i _;cases dst with
       |none=>
        simp only[finish];split
        .split
         .rfl
         .rfl
        .rfl
       |some u=>
        have eU:(Loc.t i)≠ .t u:=λe=>hl u rfl (by cases e;exact List.mem_append_left _ (List.mem_filterMap.2 ⟨.tmp i,by simp[Op.operands,Call.operands,heq],rfl⟩))
        simp only[finish,eO,b0t eU];cases jD (.t i) st.own with
        |none=>rfl
        |some p=>
         obtain⟨e',eP⟩:=p;simp only[Option.map_some];split
         .rfl
         .rfl
      .rfl
     .rfl
    .rfl
   .rename_i h1 _ _;cases h1
   .rename_i h1 _;cases h1
   .rename_i h1 _;cases h1
   .rfl
  |_=>simp[isApp]at h
 |_=>simp[isApp]at h
theorem c4v{o:Oper}(h:isApp o=true){H:List (Nat×bD)}:mV P G o {st with H:=H}=(mV P G o st).map λout=>⟨out.v,out.act,{out.st with H:=H}⟩:=by
 obtain⟨f3W,op,ty,pos,after,guard⟩:=o;have he:∀x:Operand,({st with H:=H}:St).eval G x=st.eval G x:=λx=>by cases x<;>rfl
 cases op with
 |call c=>
  obtain⟨callee,args,ts⟩:=c;cases callee with
  |builtin b=>
   cases b<;>simp[isApp]at h;simp only[mV,tQ];split
   .rename_i h1 _ _;cases h1
   .simp only[a4j,he];split
    .split
     .split
      .split<;>rfl
      .cases jD _ st.own with
       |none=>rfl
       |some p=>obtain⟨e',eP⟩:=p;simp only;split<;>rfl
      .rfl
     .rfl
    .rfl
   .rename_i h1 _ _;cases h1
   .rename_i h1 _;cases h1
   .rename_i h1 _;cases h1
   .rfl
  |_=>simp[isApp]at h
 |_=>simp[isApp]at h
theorem d1H{k:Nat}{cs:List DV}(h:∀c∈cs,mentions k c=false):uK k (b4Z cs)=true:=by
 unfold b4Z;split
 .rfl
 .simp only[uK,g0Z,Bool.not_eq_true'];exact h
theorem tV{o:Oper}(h:eW o=true):∃d,o.dst=some d/\((∃cs:bD,(∀k,uK k cs=true)/\∀st:St,mV P G o st=some ⟨.ptr d 0,.no,gK st d cs⟩)\/∀st:St,mV P G o st=none):=by
 obtain⟨dst,op,ty,pos,after,guard⟩:=o;cases op with
 |alloc e=>
  cases dst with
  |none=>simp[eW]at h
  |some d=>
   refine⟨d,rfl,?_⟩;simp only[mV,b1W];cases hz:kN P e with
   |some cs=>
    simp only;by_cases hd:d<100000
    .simp only[hd,if_true];exact .inl ⟨.cells (cs.map .d),λk=>by simp only[uK,g0Z,Bool.not_eq_true'];intro c hc;obtain⟨y,_,rfl⟩:=List.mem_map.1 hc;rfl,λ_=>rfl⟩
    .simp only[hd,if_false];exact .inr λ_=>trivial
   |none=>
    simp only;cases hc:c3P P e with
    |some cs=>
     simp only;by_cases hd:d<100000
     .simp only[hd,if_true];exact .inl ⟨b4Z cs,λk=>d1H (c8f hc),λ_=>rfl⟩
     .simp only[hd,if_false];exact .inr λ_=>trivial
    |none=>exact .inr λ_=>rfl
 |_=>simp[eW]at h
theorem a6f{α:Type}{f:α->α}:∀ {l:List α},(∀x∈l,f x=x)->l.map f=l
 |[],_=>rfl
 |x::r,h=>by rw[List.map_cons,h x (.head _),a6f λy hy=>h y (.tail _ hy)]
theorem bR{k:Nat}{o:bD}(h:cR k st=true):gK st k o={st with H:=bU k o st.H}:=by
 obtain⟨h1,h2,h3⟩:=oP h;unfold gK;have e1:st.tmps.map (mX k)=st.tmps:=a6f λv hv=>by unfold mX;rw[h1 v hv,if_neg (by simp)]
 have e2:(st.H.map λp=>(p.1,a2q k p.2))=st.H:=a6f λp hp=>by
  obtain⟨a,b⟩:=p;have:=(h2 _ hp).2;cases b with
  |cells cs=>simp only[uK,g0Z,Bool.not_eq_true']at this;simp only[a2q];rw[a6f λv hv=>by unfold mX;rw[this v hv,if_neg (by simp)]]
  |_=>rfl
 have e3:dropKey k st.own=st.own:=a6f λc hc=>by obtain⟨a,b⟩:=c;simp only;rw[List.filter_eq_self.2 λl hl=>by simp[h3 _ hc l hl]]
 rw[e1,e2,e3]
theorem b3d{k:Nat}{o:bD}:∀ {H:List (Nat×bD)} {p:Nat×bD},p∈a1r k o H->p=(k,o)\/p∈H
 |(k',o')::r,p,h=>by
  unfold a1r at h;split at h
  .rcases List.mem_cons.1 h with h|h
   .exact .inl h
   .exact .inr (.tail _ h)
  .rcases List.mem_cons.1 h with h|h
   .exact .inr (h▸ .head _)
   .rcases b3d h with h|h
    .exact .inl h
    .exact .inr (.tail _ h)
theorem b3e{k:Nat}{o:bD}:∀ {H:List (Nat×bD)} {p:Nat×bD},p∈oC k o H->p=(k,o)\/p∈H
 |[],p,h=>by simp[oC]at h;exact .inl h
 |(k',o')::r,p,h=>by
  unfold oC at h;split at h
  .rcases List.mem_cons.1 h with h|h
   .exact .inl h
   .exact .inr h
  .rcases List.mem_cons.1 h with h|h
   .exact .inr (h▸ .head _)
   .rcases b3e h with h|h
    .exact .inl h
    .exact .inr (.tail _ h)
theorem a6g{k:Nat}{o:bD}{H:List (Nat×bD)}{p:Nat×bD}(h:p∈bU k o H):p=(k,o)\/p∈H:=by
 unfold bU at h;split at h
 .exact b3d h
 .exact b3e h
theorem a6h{k d:Nat}{cs:bD}(hd:d≠k)(hc:uK k cs=true)(h:cR k st=true):cR k (gK st d cs)=true:=by
 obtain⟨h1,h2,h3⟩:=oP h;have kill:∀v:DV,mentions k v=false->mentions k (mX d v)=false:=λv hv=>by
  unfold mX;split
  .rfl
  .exact hv
 refine a1G (λv hv=>?_) (λp hp=>?_) λc hcc l hl=>?_
 .obtain⟨u,hu,rfl⟩:=List.mem_map.1 hv;exact kill u (h1 u hu)
 .rcases a6g hp with rfl|hp
  .exact⟨hd,hc⟩
  .obtain⟨q,hq,rfl⟩:=List.mem_map.1 hp;obtain⟨q1,q2⟩:=h2 q hq;refine⟨q1,?_⟩;cases hq2:q.2 with
   |cells c0=>rw[hq2]at q2;simp only[uK,a2q,g0Z,Bool.not_eq_true']at q2|-;intro v hv;obtain⟨u,hu,rfl⟩:=List.mem_map.1 hv;exact kill u (q2 u hu)
   |_=>rfl
 .obtain⟨c0,yI,rfl⟩:=List.mem_map.1 hcc;exact h3 c0 yI l (List.mem_filter.1 hl).1
theorem c1C(k:Nat)(x:Loc)(own:List (TypeId×List Loc)):dropKey k (cZ x own)=cZ x (dropKey k own):=by simp only[dropKey,cZ,List.map_map];refine List.map_congr_left λc _=>?_;simp only[Function.comp,List.filter_filter,Bool.and_comm]
theorem b0u{o:Oper}(h:b4e o=true):o.dst=none/\∃t a x,o.op=.store t a x:=by
 obtain⟨dst,op,ty,pos,after,guard⟩:=o;cases op with
 |store t a x=>
  cases dst with
  |none=>exact⟨rfl,t,a,x,rfl⟩
  |some d=>simp[b4e]at h
 |_=>simp[b4e]at h
theorem d4F{o:Oper}(h:b4e o=true)(ho:mV P G o st=some out):out.v=.cI []/\out.act=.no/\out.st.tmps=st.tmps:=by
 obtain⟨_,t,a,x,oV⟩:=b0u h;simp only[mV,oV,sU]at ho;split at ho
 .split at ho
  .split at ho
   .simp only[g1c]at ho;subst ho;exact⟨rfl,rfl,rfl⟩
   .cases ho
  .cases ho
 .cases ho
theorem b9K{all:Array Oper}{o:Oper}(h:b4e o=true){dst:Option Tmp}{d:DV}(hl:∀t,dst=some t->t ∉ o.looksAt all):mV P G o (finish st dst d .no)=(mV P G o st).map λout=>⟨out.v,out.act,finish out.st dst d .no⟩:=by
 have he:=a9k (G:=G) (st:=st) (d:=d) (act:=.no) hl;obtain⟨_,t,a,x,oV⟩:=b0u h;have ha:=he a (by simp[oV,Op.operands]);have hx:=he x (by simp[oV,Op.operands]);have hxl:∀u s,dst=some u->wC x=.al (.t s)->s≠u:=λu s hu hs e=>by
  cases x with
  |tmp j=>simp only[wC,OA.al.injEq,Loc.t.injEq]at hs;exact hl u hu (by rw[<-e, <- hs];exact List.mem_append_left _ (List.mem_filterMap.2 ⟨.tmp j,by simp[oV,Op.operands],rfl⟩))
  |_=>cases hs
 simp only[mV,oV,sU,ha,hx,a6c];split
 .rename_i k off ys _ _;split
  .split
   .simp only[Option.map_some,g1c,Out.mk.injEq,true_and];cases dst with
    |none=>rfl
    |some u=>
     simp only[finish,St.mk.injEq,true_and];split
     .rcases a2z (st.eval G x) (wC x)with h1|h1
      .rw[h1];exact(rS _ _ _)
      .rw[h1];cases hx':wC x with
       |no=>exact(rS _ _ _)
       |al l=>
        cases x with
        |tmp j=>simp only[wC,OA.al.injEq]at hx';subst hx';have hju:(Loc.t j)≠ .t u:=λe=>hxl u j rfl rfl (by cases e;rfl);simp only[eO];rw[if_neg (by simp),if_neg (by simp),rS,b5s hju (by simp)]
        |_=>cases hx'
       |fresh e=>cases x<;>cases hx'
     .exact c1C _ _ _
   .rfl
  .rfl
 .rfl
theorem d4G{o:Oper}(hq:a9j o.op=true){st':St}(he:∀x∈o.op.operands,st'.eval G x=st.eval G x):mV P G o st'=(mV P G o st).map λout=>⟨out.v,out.act,st'⟩:=by
 obtain⟨dst,op,ty,pos,after,guard⟩:=o;have yK:∀(x:Option Operand) (d n:Nat),(∀y,x=some y->st'.eval G y=st.eval G y)->hZ G st' x d n=hZ G st x d n:=λx d n hx=>by
  cases x with
  |none=>rfl
  |some y=>simp only[hZ,hx y rfl]
 cases op<;>simp only[a9j]at hq<;>try cases hq
 all_goals simp only[Op.operands]at he
 case move x=>simp[mV,a3D,he]
 case assign x=>simp[mV,a3D,he]
 case pick c a b=>simp only[mV,b5a,he c (by simp),he a (by simp),he b (by simp)];split<;>rfl
 case nilCheck x=>simp only[mV,wN,he x (by simp)];split<;>rfl
 case binOp op t x y u=>
  simp only[mV,b5b,a1t,c7I,he x (by simp),he y (by simp)];split
  .split<;>rfl
  .split
   .simp[Option.map_map,Function.comp_def]
   .rfl
 case unOp op t x=>
  simp only[mV,vUn,he x (by simp)];split
  .simp[Option.map_map,Function.comp_def]
  .rfl
 case convert src dst x=>
  simp only[mV,b5c,he x (by simp)];split
  .simp[Option.map_map,Function.comp_def]
  .rfl
 case extract x i=>
  simp only[mV,a1v,he x (by simp)];split
  .simp[Option.map_map,Function.comp_def]
  .rfl
 case field t x i=>
  simp only[mV,a8X,he x (by simp)];split
  .simp[Option.map_map,Function.comp_def]
  .rfl
 case index t x i=>
  simp only[mV,a8Y,he x (by simp),he i (by simp)];split
  .simp[Option.map_bind,Option.map_map,Function.comp_def]
  .simp[Option.map_bind,Option.map_map,Function.comp_def]
  .rfl
 case indexAddr t x i=>
  simp only[mV,tO,he x (by simp),he i (by simp)];split
  .rw[Option.map_bind];congr 1;funext j;simp only[Function.comp];rw[Option.map_bind];congr 1;funext cs;simp only[Function.comp];split<;>rfl
  .split
   .rfl
   .simp[Option.map_map,Function.comp_def]
  .split
   .rfl
   .simp[Option.map_map,Function.comp_def]
  .rfl
 case fieldAddr t x i=>
  simp only[mV,tP,he x (by simp)];split
  .split
   .rfl
   .split<;>rfl
  .rfl
 case slice t x lo hi mx=>
  have sE:∀y,lo=some y->st'.eval G y=st.eval G y:=λy hy=>he y (by simp[hy]);have hhi:∀y,hi=some y->st'.eval G y=st.eval G y:=λy hy=>he y (by simp[hy]);have hmx:∀y,mx=some y->st'.eval G y=st.eval G y:=λy hy=>he y (by simp[hy]);simp only[mV,a8Z,he x (by simp),yK lo _ _ sE,yK hi _ _ hhi];split
  .simp[Option.map_bind,Option.map_map,Function.comp_def]
  .split
   .simp[Option.map_bind,Option.map_map,Function.comp_def]
   .rfl
  .split
   .simp[Option.map_bind,Option.map_map,Function.comp_def]
   .rfl
  .rw[yK (some _) _ _ λy hy=>hmx y hy];split<;>rfl
  .rw[yK (some _) _ _ λy hy=>hmx y hy];split<;>rfl
  .rfl
theorem pD{o:Oper}(h:a9j o.op=true):dI o.op=true/\dK G o st=none/\kB G o st=none:=by obtain⟨dst,op,ty,pos,after,guard⟩:=o;cases op<;>simp only[a9j]at h<;>first|exact⟨rfl,rfl,rfl⟩|cases h
theorem QY.pure{all:Array Oper}{o:Oper}{d:DV}{ac:OA}{st':St}(h:QY P G all o d ac st)(hq:a9j o.op=true)(ht:st'.tmps=st.tmps):QY P G all o d ac st':=by
 have he:∀x:Operand,st'.eval G x=st.eval G x:=λx=>by cases x<;>simp[St.eval,ht]
 obtain⟨_,h1,h2⟩:=pD (G:=G) (st:=st) hq;obtain⟨_,h1',h2'⟩:=pD (G:=G) (st:=st') hq;rcases h with⟨hw,⟨f,ds,own,hc,_⟩|⟨hc,hch,ho⟩|⟨hc,f,g0U,ks,hch,_⟩⟩|⟨hw,h3⟩
 .rw[h2]at hc;cases hc
 .exact .inl ⟨by rw[ht];exact hw,.inr (.inl ⟨h2',h1',by rw[d4G hq (λx _=>he x),ho];rfl⟩)⟩
 .rw[h1]at hch;cases hch
 .exact .inr ⟨by rw[ht];exact hw,h3⟩
theorem b5w{o:Oper}{k:Nat}{t:TypeId}{ad x:Operand}(ho:o.op=.store t ad x)(hf:cR k st=true)(h:mV P G o st=some out):cR k out.st=true/\mentions k out.v=false:=by
 obtain⟨h1,h2,h3⟩:=oP hf;simp only[mV,ho,sU]at h;split at h
 .rename_i key off ys ha hx;have eU:key≠k:=λe=>by have:=uL (G:=G) hf ad;rw[ha]at this;simp only[mentions,beq_eq_false_iff_ne,ne_eq]at this;exact this e
  split at h
  .rename_i cs hk;split at h
   .simp only[g1c]at h;subst h;refine⟨a1G h1 (λp hp=>?_) λc hc l hl=>?_,rfl⟩
    .rcases a6g hp with rfl|hp
     .refine⟨eU,?_⟩;simp only[uK,g0Z,Bool.not_eq_true'];exact b9J (λc hc=>c4s hf hk c hc) (b3a (uL hf x) hx)
     .exact h2 p hp
    .simp only at hc;have drop:∀c∈cZ (.c key off) st.own,∀l∈c.2,l.a0a k=false:=λc hc l hl=>by obtain⟨c0,yI,rfl⟩:=List.mem_map.1 hc;exact h3 c0 yI l (List.mem_filter.1 hl).1
     have wE:(Loc.c key off).a0a k=false:=by simp[Loc.a0a,eU]
     split at hc
     .generalize tM (st.eval G x) (wC x)=act at hc;cases act with
      |no=>exact drop c hc l hl
      |al l0=>
       simp only[eO]at hc;split at hc
       .exact h3 c hc l hl
       .unfold addAlias at hc;obtain⟨c0,yI,rfl⟩:=List.mem_map.1 hc;split at hl
        .rcases List.mem_cons.1 hl with rfl|hl
         .exact wE
         .exact drop c0 yI l hl
        .exact drop c0 yI l hl
      |fresh e=>
       simp only[eO]at hc;rcases List.mem_cons.1 hc with rfl|hc
       .simp only[g1d]at hl;subst hl;exact wE
       .exact drop c hc l hl
     .obtain⟨c0,yI,rfl⟩:=List.mem_map.1 hc;exact h3 c0 yI l (List.mem_filter.1 hl).1
   .cases h
  .cases h
 .cases h
theorem vN{all:Array Oper}{o:Oper}{s:St}{k:Nat}(h:Eff P G all o st s)(hf:cR k st=true)(hn:eW o=true->o.dst≠some k):cR k s=true:=by
 rcases h with⟨hq,d,act,hy,rfl⟩|⟨hs,⟨hw,out,ho,rfl⟩|⟨hw,rfl⟩⟩
 .exact cL hf (hy.free hq hf)
 .cases ha:isApp o with
  |true=>obtain⟨_,⟨es,hv⟩,eP,mU,a2k⟩:=a0f ha ho;obtain⟨h1,h2,h3⟩:=oP hf;refine cL ?_ (by rw[hv];rfl);rw[mU];exact a1G h1 h2 λc hc=>h3 c (a2k c hc)
  |false=>
   cases hs2:eW o with
   |true=>
    obtain⟨d,hd,⟨cs,rI,hv⟩|hv⟩:=tV (P:=P) (G:=G) hs2
    .rw[hv]at ho;cases ho;have hdk:d≠k:=λe=>hn hs2 (e▸hd);exact cL (a6h hdk (rI k) hf) (by simp[mentions,hdk])
    .rw[hv]at ho;cases ho
   |false=>
    have mU:b4e o=true:=by simpa[qH,ha,hs2]using hs
    obtain⟨_,t,a,x,oV⟩:=b0u mU;obtain⟨h1,h2⟩:=b5w oV hf ho;exact cL h1 h2
 .exact cL hf rfl
theorem a1k{H:List (Nat×bD)}(x:Operand):({st with H:=H}:St).eval G x=st.eval G x:=by cases x<;>rfl
theorem b3f{own:List (TypeId×List Loc)}(x:Operand):({st with own:=own}:St).eval G x=st.eval G x:=by cases x<;>rfl
theorem b9L{ops:Array Oper}{o:Oper}(h:eW o=true):uZ ops o=false:=by
 obtain⟨dst,op,ty,pos,after,guard⟩:=o;cases op with
 |alloc e=>cases guard<;>cases dst<;>rfl
 |_=>simp[eW]at h
theorem b0v{ops:Array Oper}{x y:Oper}{s1 s12:St}(hap:x.apart ops y=true)(hp:rR ops x y=true)(fx:eW x=true->∀d,x.dst=some d->cR d st=true)(fy:eW y=true->∀d,y.dst=some d->cR d st=true)(h1:Eff P G ops x st s1)(h2:Eff P G ops y s1 s12):∃s2,Eff P G ops y st s2/\Eff P G ops x s2 s12:=by
 obtain⟨a1,a2,a3⟩:=Oper.apart_spec hap;have a2':∀t,y.dst=some t->x.dst≠some t:=λt ht he=>a2 t he ht;unfold rR at hp;simp only[g1i,g0W,Bool.not_eq_true']at hp;have noq:∀ {o:Oper} {a:OA},uZ ops o=false->a8f ops o a=.no:=λhn=>by unfold a8f;rw[hn];rfl
 rcases hp with((((((⟨⟨hqx,hqy⟩,hnn⟩|⟨⟨hqx,hsy⟩,hnx⟩)|⟨⟨⟨hsx,hqy⟩,hny⟩,hcy⟩)|⟨hqx,d0h⟩)|⟨⟨d0i,hqy⟩,hcy⟩)|⟨⟨hsx,hsy⟩,hnn⟩)|⟨⟨hpx,hnx⟩,hsy⟩)|⟨⟨hsx,hpy⟩,hny⟩
 ·
  rcases h1 with⟨_,d,ax,hx,rfl⟩|⟨hs,_⟩
  .rcases h2 with⟨_,e,ay,hy,rfl⟩|⟨hs,_⟩
   .have hy':=(QY.finish hqy a1).1 hy;refine⟨_,.inl ⟨hqy,e,ay,hy',rfl⟩,.inl ⟨hqx,d,ax,(QY.finish hqx a3).2 hx,?_⟩⟩;exact a0e a2 a1 a3 hnn hx.act hy'.act
   .rw[(jT (G:=G) (st:=st) hs).2.2.1]at hqy;cases hqy
  .rw[(jT (G:=G) (st:=st) hs).2.2.1]at hqx;cases hqx
 ·
  have a5E:(isApp y||eW y)=true:=by simp[hsy]
  rcases h1 with⟨_,d,ax,hx,rfl⟩|⟨hs,_⟩
  .rw[noq hnx]at h2;rcases h2 with⟨hq,_⟩|⟨_,⟨hw,out,ho,rfl⟩|⟨hw,rfl⟩⟩
   .rw[(jT (G:=G) (st:=st) (gG a5E)).2.2.1]at hq;cases hq
   .rw[bI a1]at hw;cases ha:isApp y with
    |true=>
     rw[yU ha a1]at ho;obtain⟨f3X,ho0,rfl⟩:=g0V.1 ho;obtain⟨⟨e,a0v⟩,_,eP,mU,a2k⟩:=a0f ha ho0;refine⟨_,.inr ⟨gG a5E,.inl ⟨hw,f3X,ho0,rfl⟩⟩,.inl ⟨hqx,d,ax,?_,?_⟩⟩
     .refine(QY.finish hqx a3).2 ?_;rw[mU];refine QY.to hx hqx rfl (λz _=>b3f z) (λ_ _ _ _=>rfl) (λ_ _ _ h=>h) (λ_ ks _ tS=>?_);exact g0Z.2 λc hc=>g0Z.1 tS c (a2k c hc)
     .simp only;rw[noq hnx,a0v,eS a2 (.inr ⟨e,rfl⟩)]
    |false=>
     have hny:eW y=true:=by simpa[ha]using a5E
     obtain⟨k,hk,⟨cs,rI,hv⟩|hv⟩:=tV (P:=P) (G:=G) hny
     .have hf:=fy hny k hk;have hfd:=hx.free hqx hf;have hf1:cR k (finish st x.dst d .no)=true:=cL hf hfd;rw[hv]at ho;cases ho;rw[bR hf1];refine⟨_,.inr ⟨gG a5E,.inl ⟨hw,_,hv st,rfl⟩⟩,.inl ⟨hqx,d,ax,?_,?_⟩⟩
      .refine(QY.finish hqx a3).2 ?_;simp only;rw[bR hf];refine QY.to hx hqx rfl (λz _=>a1k z) (λz _ k' hm=>?_) (λ_ k' ob wE=>?_) (λ_ ks _ tS=>tS)
       .have:k≠k':=λe=>by subst e;rw[uL hf z]at hm;cases hm
        exact mA _ this _
       .have:k≠k':=λe=>by subst e;rw[a0R hf]at wE;cases wE
        rw[mA _ this];exact wE
      .simp only;rw[noq hnx,bR hf, <- eS a2 (.inl rfl)];congr 1;cases x.dst<;>rfl
     .rw[hv]at ho;cases ho
   .rw[bI a1]at hw;refine⟨_,.inr ⟨gG a5E,.inr ⟨hw,rfl⟩⟩,.inl ⟨hqx,d,ax,(QY.finish hqx a3).2 hx,?_⟩⟩;rw[noq hnx,eS a2 (.inl rfl)]
  .rw[(jT (G:=G) (st:=st) hs).2.2.1]at hqx;cases hqx
 ·
  have a5F:(isApp x||eW x)=true:=by simp[hsx]
  rcases h2 with⟨_,e,ay,hy,rfl⟩|⟨hs,_⟩
  .rcases h1 with⟨hq,_⟩|⟨_,⟨hw,out,ho,rfl⟩|⟨hw,rfl⟩⟩
   .rw[(jT (G:=G) (st:=st) (gG a5F)).2.2.1]at hq;cases hq
   .cases ha:isApp x with
    |true=>
     obtain⟨⟨k,a0v⟩,_,eP,mU,a2k⟩:=a0f ha ho;have hy':QY P G ops y e ay st:=by have h3:=(QY.finish hqy a1).1 hy;rw[mU]at h3;exact h3.to hqy rfl (λz _=>(b3f z).symm) (λ_ _ _ _=>rfl) (λ_ _ _ h=>h) λhc=>by rw[hcy]at hc;cases hc
     refine⟨_,.inl ⟨hqy,e,ay,hy',rfl⟩,.inr ⟨gG a5F,.inl ⟨by rw[bI a3];exact hw,⟨out.v,out.act,finish out.st y.dst e .no⟩,?_,?_⟩⟩⟩
     .rw[noq hny,yU ha a3,ho];rfl
     .simp only;rw[noq hny,a0v,eS a2' (.inr ⟨k,rfl⟩)]
    |false=>
     have hnx:eW x=true:=by simpa[ha]using a5F
     obtain⟨k,hk,⟨cs,rI,hv⟩|hv⟩:=tV (P:=P) (G:=G) hnx
     .have hf:=fx hnx k hk;rw[hv]at ho;cases ho;have hy':QY P G ops y e ay st:=by
       have h3:=(QY.finish hqy a1).1 hy;simp only at h3;rw[bR hf]at h3;refine h3.to hqy rfl (λz _=>(a1k z).symm) (λz _ k' hm=>?_) (λhc=>by rw[hcy]at hc;cases hc) λhc=>by rw[hcy]at hc;cases hc
       rw[a1k]at hm;have:k≠k':=λe=>by subst e;rw[uL hf z]at hm;cases hm
       exact(mA _ this _).symm
      have hf2:cR k (finish st y.dst e .no)=true:=cL hf (hy'.free hqy hf);refine⟨_,.inl ⟨hqy,e,ay,hy',rfl⟩,.inr ⟨gG a5F,.inl ⟨by rw[bI a3];exact hw,_,hv _,?_⟩⟩⟩;simp only;rw[noq hny,bR hf,bR hf2,eS a2 (.inl rfl)];cases y.dst<;>rfl
     .rw[hv]at ho;cases ho
   .have hy':=(QY.finish hqy a1).1 hy;refine⟨_,.inl ⟨hqy,e,ay,hy',rfl⟩,.inr ⟨gG a5F,.inr ⟨by rw[bI a3];exact hw,?_⟩⟩⟩;rw[noq hny,eS a2' (.inl rfl)]
  .rw[(jT (G:=G) (st:=st) hs).2.2.1]at hqy;cases hqy
 ·
  have hss:qH y=true:=gG (by simp[d0h]);have f0j:uZ ops y=false:=b9L d0h;rcases h1 with⟨_,d,ax,hx,rfl⟩|⟨hs,_⟩
  .rcases h2 with⟨hq,_⟩|⟨_,⟨hw,out,ho,rfl⟩|⟨hw,rfl⟩⟩
   .rw[(jT (G:=G) (st:=st) hss).2.2.1]at hq;cases hq
   .rw[bI a1]at hw;obtain⟨k,hk,⟨cs,rI,hv⟩|hv⟩:=tV (P:=P) (G:=G) d0h
    .have hf:=fy d0h k hk;have hfd:=hx.free hqx hf;have hf1:cR k (finish st x.dst d (a8f ops x ax))=true:=cL hf hfd;rw[hv]at ho;cases ho;rw[bR hf1];refine⟨_,.inr ⟨hss,.inl ⟨hw,_,hv st,rfl⟩⟩,.inl ⟨hqx,d,ax,?_,?_⟩⟩
     .refine(QY.finish hqx a3).2 ?_;simp only;rw[bR hf];refine QY.to hx hqx rfl (λz _=>a1k z) (λz _ k' hm=>?_) (λ_ k' ob wE=>?_) (λ_ ks _ tS=>tS)
      .have:k≠k':=λe=>by subst e;rw[uL hf z]at hm;cases hm
       exact mA _ this _
      .have:k≠k':=λe=>by subst e;rw[a0R hf]at wE;cases wE
       rw[mA _ this];exact wE
     .simp only;rw[bR hf, <- a0e a2 a1 a3 (by rw[f0j,Bool.and_false]) hx.act (.inl rfl)];congr 1;cases x.dst<;>rfl
    .rw[hv]at ho;cases ho
   .rw[bI a1]at hw;refine⟨_,.inr ⟨hss,.inr ⟨hw,rfl⟩⟩,.inl ⟨hqx,d,ax,(QY.finish hqx a3).2 hx,?_⟩⟩;exact a0e a2 a1 a3 (by rw[f0j,Bool.and_false]) hx.act (.inl rfl)
  .rw[(jT (G:=G) (st:=st) hs).2.2.1]at hqx;cases hqx
 ·
  have hss:qH x=true:=gG (by simp[d0i]);have f0k:uZ ops x=false:=b9L d0i;rcases h2 with⟨_,e,ay,hy,rfl⟩|⟨hs,_⟩
  .rcases h1 with⟨hq,_⟩|⟨_,⟨hw,out,ho,rfl⟩|⟨hw,rfl⟩⟩
   .rw[(jT (G:=G) (st:=st) hss).2.2.1]at hq;cases hq
   .obtain⟨k,hk,⟨cs,rI,hv⟩|hv⟩:=tV (P:=P) (G:=G) d0i
    .have hf:=fx d0i k hk;rw[hv]at ho;cases ho;have hy':QY P G ops y e ay st:=by
      have h3:=(QY.finish hqy a1).1 hy;simp only at h3;rw[bR hf]at h3;refine QY.to h3 hqy rfl (λz _=>(a1k z).symm) (λz _ k' hm=>?_) (λhc=>by rw[hcy]at hc;cases hc) (λhc=>by rw[hcy]at hc;cases hc);rw[a1k]at hm;have:k≠k':=λe=>by subst e;rw[uL hf z]at hm;cases hm
      exact(mA _ this _).symm
     have hf2:cR k (finish st y.dst e (a8f ops y ay))=true:=cL hf (hy'.free hqy hf);refine⟨_,.inl ⟨hqy,e,ay,hy',rfl⟩,.inr ⟨hss,.inl ⟨by rw[bI a3];exact hw,_,hv _,?_⟩⟩⟩;simp only;rw[bR hf,bR hf2,a0e a2 a1 a3 (by rw[f0k,Bool.false_and]) (.inl rfl) hy'.act];cases y.dst<;>rfl
    .rw[hv]at ho;cases ho
   .have hy':=(QY.finish hqy a1).1 hy;refine⟨_,.inl ⟨hqy,e,ay,hy',rfl⟩,.inr ⟨hss,.inr ⟨by rw[bI a3];exact hw,?_⟩⟩⟩;exact a0e a2 a1 a3 (by rw[f0k,Bool.false_and]) (.inl rfl) hy'.act
  .rw[(jT (G:=G) (st:=st) hs).2.2.1]at hqy;cases hqy
 ·
  have a5F:(isApp x||eW x)=true:=by simpa using hsx
  have a5E:(isApp y||eW y)=true:=by simpa using hsy
  have nq:∀ {o:Oper},(isApp o||eW o)=true-> ¬dI o.op=true:=λh=>by rw[(jT (G:=G) (st:=st) (gG h)).2.2.1];simp
  have na:∀ {o:Oper},eW o=true->isApp o=false:=λ{o} h=>by obtain⟨dst,op,ty,pos,after,guard⟩:=o;cases op<;>first|rfl|(simp[eW]at h)
  rcases h1 with⟨hq,_⟩|⟨_,⟨hwx,out,ho,rfl⟩|⟨hwx,rfl⟩⟩
  .exact absurd hq (nq a5F)
  ·
   rcases h2 with⟨hq,_⟩|⟨_,⟨hw,f3Z,ho2,rfl⟩|⟨hw,rfl⟩⟩
   .exact absurd hq (nq a5E)
   .cases hx:eW x with
    |true=>
     obtain⟨k,hk,⟨cs,rI,hv⟩|hv⟩:=tV (P:=P) (G:=G) hx
     .have hf:=fx hx k hk;rw[hv]at ho;cases ho;rw[bR hf]at hw ho2;rw[bI a1]at hw;cases hy:eW y with
      |true=>
       obtain⟨k2,hk2,⟨cs2,e5J,hv2⟩|hv2⟩:=tV (P:=P) (G:=G) hy
       .have hf2:=fy hy k2 hk2;have eU:k≠k2:=λe=>a2 k hk (e▸hk2);have hm:mentions k2 (.ptr k 0)=false:=by simp[mentions,eU]
        have hm2:mentions k (.ptr k2 0)=false:=by simp[mentions,Ne.symm eU]
        have g1:cR k2 (finish {st with H:=bU k cs st.H} x.dst (.ptr k 0) .no)=true:=cL (by have:=a6h eU (rI k2) hf2;rwa[bR hf]at this) hm;have g2:cR k (finish {st with H:=bU k2 cs2 st.H} y.dst (.ptr k2 0) .no)=true:=cL (by have:=a6h (Ne.symm eU) (e5J k) hf;rwa[bR hf2]at this) hm2;rw[hv2]at ho2;cases ho2;refine⟨_,.inr ⟨gG a5E,.inl ⟨hw,_,hv2 st,rfl⟩⟩,.inr ⟨gG a5F,.inl ⟨by simp only;rw[bI a3,bR hf2];exact hwx,_,hv _,?_⟩⟩⟩;simp only;rw[bR hf2,bR g1,bR g2];have e1:({finish {st with H:=bU k cs st.H} x.dst (.ptr k 0) .no with H:=bU k2 cs2 (finish {st with H:=bU k cs st.H} x.dst (.ptr k 0) .no).H}:St)=finish {st with H:=bU k2 cs2 (bU k cs st.H)} x.dst (.ptr k 0) .no:=by cases x.dst<;>rfl
        have e2:({finish {st with H:=bU k2 cs2 st.H} y.dst (.ptr k2 0) .no with H:=bU k cs (finish {st with H:=bU k2 cs2 st.H} y.dst (.ptr k2 0) .no).H}:St)=finish {st with H:=bU k cs (bU k2 cs2 st.H)} y.dst (.ptr k2 0) .no:=by cases y.dst<;>rfl
        rw[e1,e2,c3T eU _ _ (a0R hf) (a0R hf2)];exact eS a2 (.inl rfl)
       .rw[hv2]at ho2;cases ho2
      |false=>
       have hay:isApp y=true:=by simpa[hy]using a5E
       rw[yU hay a1,c4v hay]at ho2;obtain⟨o1,ho1,rfl⟩:=g0V.1 ho2;obtain⟨o0,ho0,rfl⟩:=g0V.1 ho1;obtain⟨⟨e,a0v⟩,_,eP,mU,a2k⟩:=a0f hay ho0;have e5K:Eff P G ops y st (finish o0.st y.dst o0.v o0.act):=.inr ⟨gG a5E,.inl ⟨hw,o0,ho0,rfl⟩⟩;have g2:cR k (finish o0.st y.dst o0.v o0.act)=true:=vN e5K hf λh=>by rw[hy]at h;cases h
       refine⟨_,.inr ⟨gG a5E,.inl ⟨hw,o0,ho0,rfl⟩⟩,.inr ⟨gG a5F,.inl ⟨by rw[bI a3,mU];exact hwx,_,hv _,?_⟩⟩⟩;simp only;rw[bR g2,a0v,eS a2 (.inr ⟨e,rfl⟩),mU];cases y.dst<;>rfl
     .rw[hv]at ho;cases ho
    |false=>
     have hax:isApp x=true:=by simpa[hx]using a5F
     have hy:eW y=true:=by simpa[hx]using hnn
     obtain⟨⟨e,a0v⟩,⟨es,hvv⟩,eP,mU,a2k⟩:=a0f hax ho;obtain⟨k2,hk2,⟨cs2,e5J,hv2⟩|hv2⟩:=tV (P:=P) (G:=G) hy
     .have hf2:=fy hy k2 hk2;have e5K:Eff P G ops x st (finish out.st x.dst out.v out.act):=.inr ⟨gG a5F,.inl ⟨hwx,out,ho,rfl⟩⟩;have g1:cR k2 (finish out.st x.dst out.v out.act)=true:=vN e5K hf2 λh=>by rw[hx]at h;cases h
      rw[bI a1,mU]at hw;rw[hv2]at ho2;cases ho2;refine⟨_,.inr ⟨gG a5E,.inl ⟨hw,_,hv2 st,rfl⟩⟩,.inr ⟨gG a5F,.inl ⟨by simp only;rw[bI a3,bR hf2];exact hwx,⟨out.v,out.act,finish {out.st with H:=bU k2 cs2 out.st.H} y.dst (.ptr k2 0) .no⟩,?_,?_⟩⟩⟩
      .simp only;rw[bR hf2,yU hax a3,c4v hax,ho];simp only[Option.map_some,mU]
      .simp only;rw[bR g1,a0v,eS a2' (.inr ⟨e,rfl⟩),mU];congr 1;cases x.dst<;>rfl
     .rw[hv2]at ho2;cases ho2
   ·
    have mU:out.st.tmps.length=out.st.tmps.length:=rfl;have hwy:eJ y ops st.tmps=some false:=by
     rw[bI a1]at hw;cases hx:eW x with
     |true=>
      obtain⟨k,hk,⟨cs,rI,hv⟩|hv⟩:=tV (P:=P) (G:=G) hx
      .rw[hv]at ho;cases ho;rw[bR (fx hx k hk)]at hw;exact hw
      .rw[hv]at ho;cases ho
     |false=>obtain⟨_,_,eP,mU,_⟩:=a0f (by simpa[hx]using a5F) ho;rw[mU]at hw;exact hw
    refine⟨_,.inr ⟨gG a5E,.inr ⟨hwy,rfl⟩⟩,.inr ⟨gG a5F,.inl ⟨by rw[bI a3];exact hwx,?_⟩⟩⟩;cases hx:eW x with
    |true=>
     obtain⟨k,hk,⟨cs,rI,hv⟩|hv⟩:=tV (P:=P) (G:=G) hx
     .have hf:=fx hx k hk;have g2:cR k (finish st y.dst (.cI []) .no)=true:=cL hf rfl;rw[hv]at ho;cases ho;refine⟨_,hv _,?_⟩;simp only;rw[bR hf,bR g2,eS a2 (.inl rfl)];cases y.dst<;>rfl
     .rw[hv]at ho;cases ho
    |false=>
     have hax:isApp x=true:=by simpa[hx]using a5F
     obtain⟨⟨e,a0v⟩,_,eP,mU,a2k⟩:=a0f hax ho;refine⟨⟨out.v,out.act,finish out.st y.dst (.cI []) .no⟩,by rw[yU hax a3,ho];rfl,?_⟩;simp only;rw[a0v,eS a2' (.inr ⟨e,rfl⟩)]
  ·
   rcases h2 with⟨hq,_⟩|⟨_,⟨hw,f3Z,ho2,rfl⟩|⟨hw,rfl⟩⟩
   .exact absurd hq (nq a5E)
   .rw[bI a1]at hw;cases hy:eW y with
    |true=>
     obtain⟨k2,hk2,⟨cs2,e5J,hv2⟩|hv2⟩:=tV (P:=P) (G:=G) hy
     .have hf2:=fy hy k2 hk2;have g1:cR k2 (finish st x.dst (.cI []) .no)=true:=cL hf2 rfl;rw[hv2]at ho2;cases ho2;refine⟨_,.inr ⟨gG a5E,.inl ⟨hw,_,hv2 st,rfl⟩⟩,.inr ⟨gG a5F,.inr ⟨by simp only;rw[bI a3,bR hf2];exact hwx,?_⟩⟩⟩;simp only;rw[bR hf2,bR g1, <- eS a2 (.inl rfl)];congr 1;cases x.dst<;>rfl
     .rw[hv2]at ho2;cases ho2
    |false=>
     have hay:isApp y=true:=by simpa[hy]using a5E
     rw[yU hay a1]at ho2;obtain⟨o0,ho0,rfl⟩:=g0V.1 ho2;obtain⟨⟨e,a0v⟩,_,eP,mU,a2k⟩:=a0f hay ho0;refine⟨_,.inr ⟨gG a5E,.inl ⟨hw,o0,ho0,rfl⟩⟩,.inr ⟨gG a5F,.inr ⟨by rw[bI a3,mU];exact hwx,?_⟩⟩⟩;simp only;rw[a0v,eS a2 (.inr ⟨e,rfl⟩)]
   .rw[bI a1]at hw;refine⟨_,.inr ⟨gG a5E,.inr ⟨hw,rfl⟩⟩,.inr ⟨gG a5F,.inr ⟨by rw[bI a3];exact hwx,?_⟩⟩⟩;exact eS a2 (.inl rfl)
 ·
  obtain⟨hqx,_,_⟩:=pD (G:=G) (st:=st) hpx;obtain⟨hyd,_⟩:=b0u hsy;have hss:qH y=true:=by simp[qH,hsy]
  rcases h1 with⟨_,d,ax,hx,rfl⟩|⟨hs,_⟩
  .rw[noq hnx]at h2;rcases h2 with⟨hq,_⟩|⟨_,⟨hw,out,ho,rfl⟩|⟨hw,rfl⟩⟩
   .rw[(jT (G:=G) (st:=st) hss).2.2.1]at hq;cases hq
   .rw[bI a1]at hw;rw[b9K hsy a1]at ho;obtain⟨o0,ho0,rfl⟩:=g0V.1 ho;obtain⟨_,_,htm⟩:=d4F hsy ho0;refine⟨_,.inr ⟨hss,.inl ⟨hw,o0,ho0,rfl⟩⟩,.inl ⟨hqx,d,ax,?_,?_⟩⟩
    .rw[hyd];exact hx.pure hpx htm
    .rw[hyd,noq hnx];rfl
   .rw[bI a1]at hw;refine⟨_,.inr ⟨hss,.inr ⟨hw,rfl⟩⟩,.inl ⟨hqx,d,ax,?_,?_⟩⟩
    .rw[hyd];exact hx
    .rw[hyd,noq hnx];rfl
  .rw[(jT (G:=G) (st:=st) hs).2.2.1]at hqx;cases hqx
 ·
  obtain⟨hqy,_,_⟩:=pD (G:=G) (st:=st) hpy;obtain⟨hxd,_⟩:=b0u hsx;have hss:qH x=true:=by simp[qH,hsx]
  rcases h2 with⟨_,e,ay,hy,rfl⟩|⟨hs,_⟩
  .rcases h1 with⟨hq,_⟩|⟨_,⟨hw,out,ho,rfl⟩|⟨hw,rfl⟩⟩
   .rw[(jT (G:=G) (st:=st) hss).2.2.1]at hq;cases hq
   .obtain⟨_,_,htm⟩:=d4F hsx ho;rw[hxd]at hy;have hy':QY P G ops y e ay st:=QY.pure (st:=out.st) hy hpy htm.symm;refine⟨_,.inl ⟨hqy,e,ay,hy',rfl⟩,.inr ⟨hss,.inl ⟨by rw[bI a3];exact hw,⟨out.v,out.act,finish out.st y.dst e .no⟩,?_,?_⟩⟩⟩
    .rw[noq hny,b9K hsx a3,ho];rfl
    .rw[hxd,noq hny];rfl
   .rw[hxd]at hy;refine⟨_,.inl ⟨hqy,e,ay,hy,rfl⟩,.inr ⟨hss,.inr ⟨by rw[bI a3];exact hw,?_⟩⟩⟩;rw[hxd];rfl
  .rw[(jT (G:=G) (st:=st) hs).2.2.1]at hqy;cases hqy
def rT(ops:Array Oper)(listed:Array Bool)(st:St):Prop:=∀(j:Nat) (oj:Oper) (d:Tmp),ops[j]? =some oj->eW oj=true->listed.getD j true=false->oj.dst=some d->cR d st=true
def qR(ops:Array Oper):Prop:=∀(i j:Nat) (oi oj:Oper) (d:Tmp),ops[i]? =some oi->ops[j]? =some oj->eW oi=true->eW oj=true->oi.dst=some d->oj.dst=some d->i=j
theorem uM{listed:Array Bool}{i j:Nat}(h:(listed.setIfInBounds i true).getD j true=false):i≠j/\listed.getD j true=false:=by
 by_cases hij:i=j
 .subst hij;exfalso;rw[g0Y]at h;by_cases hl:i<listed.size
  .simp[hl]at h
  .rw[Array.getElem?_eq_none (by simpa using hl)]at h;cases h
 .exact⟨hij,by rwa[getD_set_ne true hij]at h⟩
theorem rT.step{ops:Array Oper}{listed:Array Bool}{s:St}{i:Nat}{oi:Oper}(hA:qR ops)(hi:ops[i]? =some oi)(hI:rT ops listed st)(hk:∀k,cR k st=true->(eW oi=true->oi.dst≠some k)->cR k s=true):rT ops (listed.setIfInBounds i true) s:=by intro j oj d hj hn hun hd;obtain⟨hij,f4b⟩:=uM hun;exact hk d (hI j oj d hj hn f4b hd) λhni he=>hij (hA i j oi oj d hi hj hni hn he hd)
theorem c8g{ops:Array Oper}{Q:St->Prop}{i:Nat}{oi:Oper}(hA:qR ops)(hi:ops[i]? =some oi)(hsi:(dI oi.op=true/\oO ops oi=false)\/qH oi=true):
  ∀(fuel:Nat) (listed:Array Bool) (st s:St),gF ops listed->
   (∀j oj,ops[j]? =some oj->j≠i->listed.getD j true=false->jL ops ops.size j i=false->oi.apart ops oj=true/\rR ops oi oj=true)->
   i∈Region.ready .any ops listed->rT ops listed st->Eff P G ops oi st s->
   b5t P G ops Q fuel (listed.setIfInBounds i true) s->b5t P G ops Q (fuel+1) listed st:=by
 intro fuel
 induction fuel with
 |zero=>
  intro listed st s _ _ hr _ hy H;refine⟨λh=>(by rw[h]at hr;cases hr),λj hj=>?_⟩;by_cases hji:j=i
  .subst hji;rw[hi];exact(dY hsi).2 ⟨s,hy,H⟩
  .have:=ready_mono hj hji;rw[H.1]at this;cases this
 |succ fuel ih=>
  intro listed st s pM a0g hr hI hy H;refine⟨λh=>(by rw[h]at hr;cases hr),λj hj=>?_⟩;by_cases hji:j=i
  .subst hji;rw[hi];exact(dY hsi).2 ⟨s,hy,H⟩
  .have h1:=H.2 j (ready_mono hj hji);obtain⟨yV,oj,hoj,dR⟩:=mem_ready.1 hj;rw[hoj]at h1|-;simp only at h1|-;obtain⟨a3e,oi',c1D,b0w⟩:=mem_ready.1 hr;have a5G:jL ops ops.size j i=false:=dL pM a3e _ _ λo ho=>by rw[hoj]at ho;cases ho;exact dR
   obtain⟨hap,hpo⟩:=a0g j oj hoj hji yV a5G;have hsj:(dI oj.op=true/\oO ops oj=false)\/qH oj=true:=by
    by_cases hs:qH oj=true
    .exact .inr hs
    .refine .inl ⟨?_,?_⟩
     .unfold rR at hpo;simp only[qH,g1i,g0W,Bool.not_eq_true']at hpo hs;rcases hpo with((((((h|h)|h)|h)|h)|h)|h)|h
      .exact h.1.2
      .exact absurd (.inl (.inl h.1.2)) hs
      .exact h.1.1.2
      .exact absurd (.inl (.inr h.2)) hs
      .exact h.1.2
      .exact absurd (.inl h.1.2) hs
      .exact absurd (.inr h.2) hs
      .exact(pD (G:=G) (st:=st) h.1.2).1
     .cases hx:oO ops oj with
      |false=>rfl
      |true=>
       have aF:i<ops.size:=(g1f.1 hi).1;rcases wH hx hoj aF (λe=>hji e.symm)with h'|h'
       .have:=dL pM yV ops.size i λo ho=>by rw[c1D]at ho;cases ho;exact b0w
        rw[h']at this;cases this
       .rw[a5G]at h';cases h'
   obtain⟨s12,hu,hk⟩:=(dY hsj).1 h1;obtain⟨s2,e1,e2⟩:=b0v hap hpo (λhn d hd=>hI i oi d hi hn a3e hd) (λhn d hd=>hI j oj d hoj hn yV hd) hy hu;refine(dY hsj).2 ⟨s2,e1,?_⟩;refine ih (listed.setIfInBounds j true) s2 s12 (pM.set hj) (λk ok hk' hki hun tS=>?_) (ready_mono hr (Ne.symm hji)) (hI.step hA hoj λk hf hn=>vN e1 hf hn) e2 ?_
   .exact a0g k ok hk' hki (uM hun).2 tS
   .rw[Array.setIfInBounds_comm _ _ hji];exact hk
theorem b5x{o:Oper}{k:Nat}{t:TypeId}{m kk v:Operand}(ho:o.op=.mapUpdate t m kk v)(hf:cR k st=true)(h:mV P G o st=some out):cR k out.st=true/\mentions k out.v=false:=by
 obtain⟨h1,h2,h3⟩:=oP hf;simp only[mV,ho,a1u]at h;split at h
 .rename_i key _ _ hm _ _;split at h
  .obtain⟨es,_,rfl⟩:=g0V.1 h;refine⟨a1G h1 (λp hp=>?_) h3,rfl⟩;rcases a6g hp with rfl|hp
   .exact⟨λe=>by have:=uL (G:=G) hf m;rw[hm]at this;simp only[mentions,beq_eq_false_iff_ne,ne_eq]at this;exact this e,rfl⟩
   .exact h2 p hp
  .cases h
 .cases h
theorem b9M{all:Array Oper}{o:Oper}{K:St->Prop}(eU:gE all≠[])(ht:d1C all o=true)(h:pC P G true all o K st):pC P G true all o (λs=>K s/\∀k,cR k st=true->(eW o=true->o.dst≠some k)->cR k s=true) st:=by
 unfold d1C at ht;have hsq:tD true all o=true:=by
  cases hk:gE all with
  |nil=>exact absurd hk eU
  |cons k r=>simp[tD,hk]
 by_cases hs:qH o=true
 .obtain⟨s,h1,h2⟩:=(dY (.inr hs)).1 h;exact(dY (.inr hs)).2 ⟨s,h1,h2,λk hf hn=>vN h1 hf hn⟩
 .unfold pC at h|-;split
  .rename_i hw;rw[hw]at h;simp only at h;split
   .rename_i f ds hc;rw[hc]at h;rcases h with⟨r,own,h1,h3,h2⟩|⟨h0,s',h1,h2⟩
    .exact .inl ⟨r,own,h1,λ_=>h3 (by trivial),h2,λk hf _=>cL hf (a0Q (h3 (by trivial)))⟩
    .rw[hsq]at h0;cases h0
   .rename_i hc;rw[hc]at h;simp only at h;split
    .rename_i f g0U hch;rw[hch]at h;simp only[a2y]at h|-;rw[hsq]at h|-;simp only[if_true]at h|-;obtain⟨d,ks,h1,h2⟩:=h;exact⟨d,ks,h1,h2,λk hf _=>cL hf (a0Q h1.2.2.2.2)⟩
    .rename_i hch;rw[hch]at h;simp only at h;split
     .rename_i out ho;rw[ho]at h;refine⟨h,λk hf _=>?_⟩;have b9N:cR k out.st=true/\mentions k out.v=false:=by
       simp only[qH,g1i]at ht hs;rcases ht with((hq|ha)|hn)|mU
       .rw[c4o hq ho];exact⟨hf,c4u hq hf ho⟩
       .exact absurd (.inl (.inl ha)) hs
       .exact absurd (.inl (.inr hn)) hs
       .split at mU
        .rename_i oV;exact b5w oV hf ho
        .rename_i oV;exact b5x oV hf ho
        .cases mU
      exact cL b9N.1 b9N.2
     .rename_i ho;rw[ho]at h;exact h
  .rename_i hw;rw[hw]at h;exact⟨h,λk hf _=>cL hf rfl⟩
  .rename_i hw;rw[hw]at h;exact h
theorem c4x{ops:Array Oper}{Q:St->Prop}(hA:qR ops)(hT:gE ops=[]\/∀o∈ops.toList,d1C ops o=true):∀(l:List Oper) (k:Nat) (listed:Array Bool) (st:St),(∀j,l[j]? =ops[k+j]?)->gF ops listed->rT ops listed st->
  lexFrom ops l.length k listed=true->vG P G true ops l st Q->b5t P G ops Q l.length listed st
 |[],_,_,_,_,_,_,hB,h=>⟨by simpa[lexFrom]using hB,h⟩
 |o::l,k,listed,st,hl,pM,hI,hB,h=>by
  have h0:ops[k]? =some o:=by simpa using (hl 0).symm
  simp only[List.length_cons,lexFrom,g0W,h0]at hB;obtain⟨⟨hr,hf⟩,hB'⟩:=hB;have hrk:k∈Region.ready .any ops listed:=by simpa using hr
  have sH:∀s,rT ops (listed.setIfInBounds k true) s->vG P G true ops l s Q->b5t P G ops Q l.length (listed.setIfInBounds k true) s:=λs hs h=>c4x hA hT l (k+1) _ s (λj=>by have:=hl (j+1);simpa[Nat.add_assoc,Nat.add_comm 1 j]using this) (pM.set hrk) hs hB' h
  have b5j:∀j oj,ops[j]? =some oj->j≠k->listed.getD j true=false->jL ops ops.size j k=false->o.apart ops oj=true/\rR ops o oj=true:=by intro j oj hj eU hun tS;rw[g0Z]at hf;have h1:=hf j (List.mem_range.2 (g1f.1 hj).1);simp only[hj,g1i,beq_iff_eq,eU,false_or,hun,Bool.false_eq_true,tS,g0W]at h1;exact h1
  have only:(∀j oj,ops[j]? =some oj->j≠k->listed.getD j true=false->jL ops ops.size j k=false->False)->b5t P G ops Q (l.length+1) listed st:=λtS=>by
   refine⟨λh'=>(by rw[h']at hrk;cases hrk),λj hj=>?_⟩;by_cases hjk:j=k
   .subst hjk;rw[h0];have b9N:pC P G true ops o (λs=>vG P G true ops l s Q/\rT ops (listed.setIfInBounds j true) s) st:=by
     by_cases hT0:gE ops=[]
     .refine gY (λs hs=>⟨hs,λi oi d hi hn _ hd=>?_⟩) h;have:d∈gE ops:=List.mem_filterMap.2 ⟨oi,by rw[Array.mem_toList_iff];exact Array.mem_of_getElem? hi,by rw[if_pos hn];exact hd⟩;rw[hT0]at this;cases this
     .have hT:=hT.resolve_left hT0;refine gY (λs hs=>⟨hs.1,hI.step hA h0 hs.2⟩) (b9M hT0 (hT o (by rw[Array.mem_toList_iff];exact Array.mem_of_getElem? h0)) h)
    exact gY (λs hs=>sH s hs.2 hs.1) b9N
   .obtain⟨yV,oj,hoj,dR⟩:=mem_ready.1 hj;have a5G:jL ops ops.size j k=false:=dL pM (mem_ready.1 hrk).1 _ _ λo' wD=>by rw[hoj]at wD;cases wD;exact dR
    exact(tS j oj hoj hjk yV a5G).elim
  by_cases hs:(dI o.op=true/\oO ops o=false)\/qH o=true
  .obtain⟨s,hd,hk⟩:=(dY hs).1 h;exact c8g hA h0 hs l.length listed st s pM (λj oj hj eU hun tS=>b5j j oj hj eU hun tS) hrk hI hd (sH _ (hI.step hA h0 λk hf hn=>vN hd hf hn) hk)
  .refine only λj oj hj eU hun tS=>?_;obtain⟨_,hpo⟩:=b5j j oj hj eU hun tS;cases hal:oO ops o with
   |true=>
    obtain⟨_,ok,oI,d4H⟩:=mem_ready.1 hrk;have d4I:jL ops ops.size k j=false:=dL pM hun _ _ λo' wD=>by rw[oI]at wD;cases wD;exact d4H
    rcases wH hal h0 (g1f.1 hj).1 eU with h'|h'
    .rw[tS]at h';cases h'
    .rw[d4I]at h';cases h'
   |false=>
    unfold rR at hpo;simp only[qH,g1i,g0W,Bool.not_eq_true']at hpo hs;rcases hpo with((((((h'|h')|h')|h')|h')|h')|h')|h'
    .exact hs (.inl ⟨h'.1.1,hal⟩)
    .exact hs (.inl ⟨h'.1.1,hal⟩)
    .exact hs (.inr (.inl (.inl h'.1.1.1)))
    .exact hs (.inl ⟨h'.1,hal⟩)
    .exact hs (.inr (.inl (.inr h'.1.1)))
    .exact hs (.inr (.inl h'.1.1))
    .exact hs (.inl ⟨(pD (G:=G) (st:=st) h'.1.1).1,hal⟩)
    .exact hs (.inr (.inr h'.1.1))
theorem Rel.drew(hr:Rel P G base R μ st a w):Rel P G base R μ st a w.drew/\Step base R w R w.drew:=
 have hs:Step base R w R w.drew:=⟨(a1x.refl _ _).drew,λ_ _ h=>h,λ_ _ h h'=>absurd h h',λ_ _ _=>rfl⟩
 ⟨hr.step hs (λ_ _=>rfl) (λ_ _ h h'=>absurd h h') hr.qP,hs⟩
theorem b5y{α β:Type}{f:α->Option β}:∀ {l:List α},(l.filterMap f).Nodup->∀(i j:Nat) {x y:α} {d:β},l[i]? =some x->l[j]? =some y->f x=some d->f y=some d->i=j
 |z::r,hn,i,j,x,y,d,hi,hj,hx,hy=>by
  have tl:(r.filterMap f).Nodup:=by
   rw[List.filterMap_cons]at hn;split at hn
   .exact hn
   .exact(List.nodup_cons.1 hn).2
  have no:∀ {k:Nat} {w:α},f z=some d->r[k]? =some w->f w=some d->False:=λhz hk hw=>by rw[List.filterMap_cons,hz]at hn;exact(List.nodup_cons.1 hn).1 (List.mem_filterMap.2 ⟨_,g1b hk,hw⟩)
  cases i with
  |zero=>
   simp at hi;subst hi;cases j with
   |zero=>rfl
   |succ j=>exact(no hx (by simpa using hj) hy).elim
  |succ i=>
   cases j with
   |zero=>simp at hj;subst hj;exact(no hy (by simpa using hi) hx).elim
   |succ j=>rw[b5y tl i j (by simpa using hi) (by simpa using hj) hx hy]
theorem b8A{id:Nat}{ops:Array Oper}{Q:Exit->St->Prop}(hm:P.follows .mixedOrders=true)(hB:d4C ops=true)(hF:b2d ops st=true)(h:vG P G true ops ops.toList st λs=>Q .normal s):SW P G (.region id ops true) st Q:=by
 intro base R μ a w hr;obtain⟨gD,rE⟩:=hr.drew;unfold d4C at hB;rw[g0W]at hB;obtain⟨hN,hB⟩:=hB;rw[g1i,List.isEmpty_iff,g0W,g0Z,decide_eq_true_eq]at hN;have mem:∀ {i oi d},ops[i]? =some oi->eW oi=true->oi.dst=some d->d∈gE ops:=λhi hn hd=>List.mem_filterMap.2 ⟨_,by rw[Array.mem_toList_iff];exact Array.mem_of_getElem? hi,by rw[if_pos hn];exact hd⟩;have hA:qR ops:=λi j oi oj d hi hj hni hnj hdi hdj=>by
  rcases hN with hN|⟨_,hN⟩
  .have:=mem hi hni hdi;rw[hN]at this;cases this
  .exact b5y (l:=ops.toList) (f:=λo=>if eW o then o.dst else none) hN i j (by simpa using hi) (by simpa using hj) (by rw[if_pos hni];exact hdi) (by rw[if_pos hnj];exact hdj)
 have hI:rT ops (Array.replicate ops.size false) st:=λj oj d hj hn _ hd=>g0Z.1 hF d (mem hj hn hd);have h1:=c4x hA (hN.imp (λh=>h) (λh=>h.1)) ops.toList 0 (Array.replicate ops.size false) st (by simp) (λk hk=>by
  rcases Nat.lt_or_ge k ops.size with h'|h'
  .simp[h']at hk
  .simp[Nat.not_lt.2 h']at hk) hI (by simpa using hB) h
 rw[show ops.toList.length=ops.size by simp]at h1;exact wp_region_any hm (b4O ops.size _ st h1 base R μ a w.drew gD λs a' w' R' μ' q1 q2 q3=>⟨s,R',μ',q1,q2,rE.trans q3⟩)
theorem a5p:∀(c:Code) (st:St) (Q:Exit->St->Prop),VW P G c st Q->SW P G c st Q
 | .skip,st,Q,h=>λbase R μ a w hr=>wp_skip ⟨st,R,μ,h,hr,.refl _ _ _⟩
 | .region id ops draw,st,Q,h=>by
  unfold VW at h;cases draw with
  |true=>exact b8A (h.1 rfl).1 (h.1 rfl).2.1 (h.1 rfl).2.2 h.2
  |false=>
   replace h:=h.2
   exact λbase R μ a w hr=>wp_region_list (c1y ops _ ops.toList st _ h base R μ a w hr λs a' w' R' μ' q1 q2 q3=>⟨s,R',μ',q1,q2,q3⟩)
 | .seq x y,st,Q,h=>λbase R μ a w hr=>wp_seq (wp_mono (a5p x st _ h base R μ a w hr) λe a1 w1 ⟨s,R1,μ1,q1,q2,q3⟩=>by
   cases e with
   |normal=>exact wp_mono (a5p y s Q q1 base R1 μ1 a1 w1 q2) λe2 a2 w2 ⟨s2,R2,μ2,p1,p2,p3⟩=>⟨s2,R2,μ2,p1,p2,q3.trans p3⟩
   |_=>exact⟨s,R1,μ1,q1,q2,q3⟩)
 | .cond c x y,st,Q,h=>λbase R μ a w hr=>by
  unfold VW at h;split at h
  .rename_i t hc;refine wp_cond (hr.a1z hc) ?_;cases t
   .exact a5p y st Q h base R μ a w hr
   .exact a5p x st Q h base R μ a w hr
  .rename_i hc;obtain⟨t,ht⟩:=hr.d0a hc;refine wp_cond ht ?_;cases t
   .exact a5p y st Q h.2 base R μ a w hr
   .exact a5p x st Q h.1 base R μ a w hr
  .cases h
 | .block id c,st,Q,h=>λbase R μ a w hr=>wp_block (wp_mono (a5p c st _ h base R μ a w hr) λe a1 w1 ⟨s,R1,μ1,q1,q2,q3⟩=>by
   cases e with
   |exit id'=>
    simp only[Exit.inBlock];simp only at q1;by_cases hid:id'=id
    .rw[if_pos hid]at q1|-;exact⟨s,R1,μ1,q1,q2,q3⟩
    .rw[if_neg hid]at q1|-;exact⟨s,R1,μ1,q1,q2,q3⟩
   |_=>exact⟨s,R1,μ1,q1,q2,q3⟩)
 | .loop c,st,Q,h=>h
 | .exit id,st,Q,h=>λbase R μ a w hr=>wp_exit ⟨st,R,μ,h,hr,.refl _ _ _⟩
 | .ret,st,Q,h=>λbase R μ a w hr=>wp_ret ⟨st,R,μ,h,hr,.refl _ _ _⟩
 | .rangeFunc ..,_,_,h=>by simp[VW]at h
 | .scope c,st,Q,h=>λbase R μ a w hr=>wp_scope_straight (wp_mono (a5p c st _ h base R μ a w hr) λe a1 w1 ⟨s,R1,μ1,q1,q2,q3⟩=>by
   cases e with
   |goto l=>exact q1.elim
   |_=>exact⟨s,R1,μ1,q1,q2,q3⟩)
 | .label l,st,Q,h=>λbase R μ a w hr=>wp_label ⟨st,R,μ,h,hr,.refl _ _ _⟩
 | .goto ..,_,_,h=>by simp[VW]at h
end
end Go.VM
end
section
namespace Go.VM
open Go Go.RowKit
def WkT:List DV->List DV->Prop
 |[],[]=>True
 |d::ds,d'::ds'=>(d'=.undef\/d'=d\/(d=.d .aD/\d'=.d (.sl [])))/\WkT ds ds'
 |_,_=>False
def WkO:bD->bD->Prop
 | .cells cs,.cells wF=>WkT cs wF
 |o,o'=>o'=o
def WkH(H:List (Nat×bD)):List (Nat×bD)->Prop
 |[]=>True
 |(k,o')::r=>(∃o,getKey k H=some o/\WkO o o')/\WkH H r
def isNil(s:St):Loc->Bool
 | .t i=>match s.tmps[i]? with
  |some (.d .aD)=>true
  |_=>false
 | .c k off=>match getKey k s.H with
  |some (.cells cs)=>(match cs[off]? with
   |some (.d .aD)=>true
   |_=>false)
  |some (.bld _ u _)=> !u&&off==1
  |_=>false
def a0T(c:TypeId×List Loc):List (TypeId×List Loc)->Option (List (TypeId×List Loc))
 |[]=>none
 |c0::r=>if c0.1=c.1/\(c.2.all λl=>c0.2.contains l)=true then some r else(a0T c r).map (c0:: ·)
def b5z(s:St)(c:TypeId×List Loc):Bool:=
 match c.2 with
 |[]=>true
 |[l]=>isNil s l
 |_=>false
def b0x(s:St):List (TypeId×List Loc)->List (TypeId×List Loc)->Bool
 |_,[]=>true
 |own,c::r=>if b5z s c then b0x s own r else match a0T c own with
  |some own1=>b0x s own1 r
  |none=>false
def bH(H:List (Nat×bD))(own:List (TypeId×List Loc)):Bool:=own.all λc=>c.2.all λl=>match l with
 | .c k _=>(getKey k H).isSome
 |_=>true
structure wI (s s':St):Prop where
 tmps:WkT s.tmps s'.tmps
 H:WkH s.H s'.H
 own:b0x s s.own s'.own=true
 keys:bH s'.H s'.own=true
section
variable {P:Program} {G:GT} {st st':St}
variable {base:dH} {R:Nat->Nat->Prop} {μ:Nat->Nat} {a:Act} {w:World}
theorem a0h:∀ {l l':List DV},WkT l l'->l'.length=l.length/\∀(i:Nat) (d':DV),l'[i]? =some d'->∃d,l[i]? =some d/\(d'=.undef\/d'=d\/(d=.d .aD/\d'=.d (.sl [])))
 |[],[],_=>by simp
 |[],_::_,h=>by simp[WkT]at h
 |_::_,[],h=>by simp[WkT]at h
 |d::l,d'::l',h=>by
  obtain⟨h1,h2⟩:=h;obtain⟨q1,q2⟩:=a0h h2;refine⟨by simp[q1],λi x hx=>?_⟩;cases i with
  |zero=>simp at hx;subst hx;exact⟨d,rfl,h1⟩
  |succ i=>simp at hx;simpa using q2 i x hx
theorem c4y{H:List (Nat×bD)}:∀ {H':List (Nat×bD)},WkH H H'->∀(k:Nat) (o':bD),getKey k H'=some o'->∃o,getKey k H=some o/\WkO o o'
 |[],_,k,o',h=>by simp[getKey]at h
 |(k1,o1)::r,hw,k,o',h=>by
  obtain⟨⟨o,h1,h2⟩,h3⟩:=hw;unfold getKey at h;split at h
  .rename_i he;simp at h;subst he h;exact⟨o,h1,h2⟩
  .exact c4y h3 k o' h
theorem b4P{b:Nat}{o o':bD}(h:WkO o o')(hr:gL R μ w b o):gL R μ w b o':=by
 cases o with
 |cells cs=>
  cases o' with
  |cells wF=>
   obtain⟨q1,q2⟩:=a0h h;obtain⟨vs,T,h1,h2,h3,h4⟩:=hr;refine⟨vs,T,h1,by rw[h2,q1],λi d' hd'=>?_,λT' hm=>?_⟩
   .obtain⟨d,hd,hc⟩:=q2 i d' hd';obtain⟨p1,p2⟩:=h3 i d hd;rcases hc with rfl|rfl|⟨rfl,rfl⟩
    .exact⟨rfl,.undef _⟩
    .exact⟨p1,p2⟩
    .obtain⟨ao,he⟩:=p2.a9b.kT;rw[he];exact⟨rfl,.d _ _ (.emp _ _)⟩
   .obtain⟨i,hi⟩:=g1n hm;obtain⟨d,hd,hc⟩:=q2 i _ hi;rcases hc with hc|rfl|⟨_,hc⟩
    .cases hc
    .exact h4 T' (g1b hd)
    .cases hc
  |map es=>cases h
  |iter s p=>cases h
  |bld T u es=>cases h
 |map es=>cases o'<;>cases h;exact hr
 |iter s p=>cases o'<;>cases h;exact hr
 |bld T u es=>cases o'<;>cases h;exact hr
theorem a4t{c:TypeId×List Loc}:∀ {own own1:List (TypeId×List Loc)},a0T c own=some own1->∃pre c0 post,own=pre++c0::post/\own1=pre++post/\c0.1=c.1/\∀l∈c.2,l∈c0.2
 |[],own1,h=>by simp[a0T]at h
 |c0::r,own1,h=>by
  simp only[a0T]at h;split at h
  .rename_i hc;simp at h;exact⟨[],c0,r,rfl,h.symm,hc.1,λl hl=>by have:=g0Z.1 hc.2 l hl;simpa using this⟩
  .simp only[g0V]at h;obtain⟨r',hr,rfl⟩:=h;obtain⟨pre,c',post,h1,h2,h3,h4⟩:=a4t hr;exact⟨c0::pre,c',post,by simp[h1],by simp[h2],h3,h4⟩
structure c8h (P:Program) (base:dH) (R:Nat->Nat->Prop) (μ:Nat->Nat) (st:St) (a:Act) (w:World) (own:List (TypeId×List Loc)) (vs:List Value):Prop where
 len:vs.length=own.length
 one:∀(i:Nat) (c:TypeId×List Loc) (v:Value),own[i]? =some c->vs[i]? =some v->a4l P base R μ st a w c v
 apart:vs.Pairwise a5h
theorem a5h.symm{v v':Value}(h:a5h v v'):a5h v' v:=λg hg hg'=>h g hg' hg
theorem c8h.take{own own1:List (TypeId×List Loc)}{vs:List Value}{c:TypeId×List Loc}(h:c8h P base R μ st a w own vs)(ht:a0T c own=some own1):
  ∃v vs1,a4l P base R μ st a w c v/\c8h P base R μ st a w own1 vs1/\(∀x∈vs1,x∈vs)/\v∈vs/\∀x∈vs1,a5h v x:=by
 obtain⟨pre,c0,post,rfl,rfl,h3,h4⟩:=a4t ht;have hpl:pre.length<vs.length:=by rw[h.len];simp
 have c7V:vs=vs.take pre.length++vs[pre.length]::vs.drop (pre.length+1):=by rw[<-g1j hpl,List.take_append_drop]
 have hc:=h.one pre.length c0 vs[pre.length] (by simp) (g1a hpl);have hap:=h.apart;rw[c7V,List.pairwise_append,List.pairwise_cons]at hap;refine⟨vs[pre.length],vs.take pre.length++vs.drop (pre.length+1),⟨λl hl=>hc.eC l (h4 l hl),by rw[<-h3];exact hc.own,hc.keys⟩,⟨?_,λi c' v hc' hv=>?_,?_⟩,λx hx=>?_,List.getElem_mem hpl,λx hx=>?_⟩
 .have:=h.len;simp at this|-;omega
 .by_cases hi:i<pre.length
  .refine h.one i c' v ?_ ?_
   .rw[g1h hi];simpa[g1h hi]using hc'
   .rw[g1h (by simp;omega),List.getElem?_take]at hv;rw[if_pos hi]at hv;exact hv
  .refine h.one (i+1) c' v ?_ ?_
   .rw[g1e (by omega),show i+1-pre.length=(i-pre.length)+1 by omega,List.getElem?_cons_succ];simpa[g1e (Nat.le_of_not_lt hi)]using hc'
   .have a4n:min pre.length vs.length=pre.length:=by omega
    rw[g1e (by simp;omega),g1p]at hv;simp only[List.length_take,a4n]at hv
    rwa[show pre.length+1+(i-pre.length)=i+1 by omega]at hv
 .rw[List.pairwise_append];exact⟨hap.1,hap.2.1.2,λx hx y hy=>hap.2.2 x hx y (.tail _ hy)⟩
 .simp only[List.mem_append]at hx;rcases hx with hx|hx
  .exact List.mem_of_mem_take hx
  .exact List.mem_of_mem_drop hx
 .simp only[List.mem_append]at hx;rcases hx with hx|hx
  .exact(hap.2.2 x hx vs[pre.length] (.head _)).symm
  .exact hap.2.1.1 x hx
theorem b9O(hr:Rel P G base R μ st a w){l:Loc}(h:isNil st l=true){u:Value}(hu:cP a w μ l=some u):∃ao,u=.slice ao 0 0:=by
 cases l with
 |t i=>
  simp only[isNil]at h;split at h
  .rename_i hd;exact(hr.tmps i u _ hu hd).a9b.kT
  .cases h
 |c k off=>
  simp only[isNil]at h;split at h
  .rename_i cs hk;split at h
   .rename_i hd;obtain⟨_,_,hob⟩:=hr.jR k _ hk;obtain⟨_,v,h1,h2⟩:=b1Y.a5T hob off (.d .aD) hd;simp only[cP]at hu;rw[Nat.zero_add,hu]at h1;cases h1;exact h2.a9b.kT
   .cases h
  .rename_i T u es hk;simp only[g0W,Bool.not_eq_true',beq_iff_eq]at h;obtain⟨rfl,rfl⟩:=h;obtain⟨_,_,v0,v1,T',q1,q2,_⟩:=hr.jR k _ hk;simp only[cP]at hu;rw[cell_of_row w _ _ _ T' (0,0) q1]at hu;have:=(q2 rfl).2;subst this;simp at hu;exact⟨none,hu.symm⟩
  .cases h
theorem a6i(hr:Rel P G base R μ st a w):∀(eP own:List (TypeId×List Loc)) (vs:List Value),c8h P base R μ st a w own vs->b0x st own eP=true->
  ∃vs',c8h P base R μ st a w eP vs'/\∀v∈vs',bK v=none\/v∈vs
 |[],own,vs,_,_=>⟨[],⟨rfl,by simp,.nil⟩,by simp⟩
 |c::r,own,vs,h,hw=>by
  unfold b0x at hw;split at hw
  .rename_i hn;obtain⟨vs',h1,h2⟩:=a6i hr r own vs h hw;have hex:∃v,a4l P base R μ st a w c v/\bK v=none:=by
    by_cases hx:∃l∈c.2,∃u,cP a w μ l=some u
    .obtain⟨l,hl,u,hu⟩:=hx;unfold b5z at hn;split at hn
     .rename_i he;rw[he]at hl;cases hl
     .rename_i l' he;rw[he]at hl;simp at hl;subst hl;obtain⟨ao,rfl⟩:=b9O hr hn hu;have hs:bK (.slice ao 0 0)=none:=by cases ao<;>rfl
      exact⟨.slice ao 0 0,⟨λl2 hl2 u2 hu2=>by rw[he]at hl2;simp at hl2;subst hl2;rw[hu]at hu2;exact(Option.some.inj hu2).symm,.inl ⟨ao,rfl⟩,λk o _=>by rw[hs];simp⟩,hs⟩
     .cases hn
    .exact⟨.slice none 0 0,⟨λl hl u hu=>absurd ⟨l,hl,u,hu⟩ hx,.inl ⟨none,rfl⟩,λk o _=>by simp[bK]⟩,rfl⟩
   obtain⟨v,hv1,hv2⟩:=hex;refine⟨v::vs',⟨by simp[h1.len],λi c' u hc hu=>?_,List.pairwise_cons.2 ⟨λx _ g hg=>(by rw[hv2]at hg;cases hg),h1.apart⟩⟩,λx hx=>?_⟩
   .cases i with
    |zero=>simp at hc hu;subst hc hu;exact hv1
    |succ i=>simp at hc hu;exact h1.one i c' u hc hu
   .simp at hx;rcases hx with rfl|hx
    .exact .inl hv2
    .exact h2 x hx
  .split at hw
   .rename_i own1 ht;obtain⟨v,vs1,q1,q2,q3,q4,q5⟩:=h.take ht;obtain⟨vs',h1,h2⟩:=a6i hr r own1 vs1 q2 hw;refine⟨v::vs',⟨by simp[h1.len],λi c' u hc hu=>?_,List.pairwise_cons.2 ⟨λx hx=>?_,h1.apart⟩⟩,λx hx=>?_⟩
    .cases i with
     |zero=>simp at hc hu;subst hc hu;exact q1
     |succ i=>simp at hc hu;exact h1.one i c' u hc hu
    .rcases h2 x hx with hs|hx'
     .exact λg _ hg'=>by rw[hs]at hg';cases hg'
     .exact q5 x hx'
    .simp at hx;rcases hx with rfl|hx
     .exact .inr q4
     .rcases h2 x hx with hs|hx'
      .exact .inl hs
      .exact .inr (q3 x hx')
   .cases hw
theorem Rel.a1H(hr:Rel P G base R μ st a w)(h:wI st st'):Rel P G base R μ st' a w:=by
 obtain⟨h1,h2⟩:=a0h h.tmps;have h3:=c4y h.H;refine⟨hr.defers,by rw[hr.size,h1],λi v d' hv hd'=>?_,λk o' hk=>?_,λk k' o o' hk hk' he=>?_,λc hc k off hl=>?_,?_,hr.vL,hr.qP,hr.base,hr.pass⟩
 .obtain⟨d,hd,hc⟩:=h2 i d' hd';have:=hr.tmps i v d hv hd;rcases hc with rfl|rfl|⟨rfl,rfl⟩
  .exact .undef _
  .exact this
  .obtain⟨ao,rfl⟩:=this.a9b.kT;exact .d _ _ (.emp _ _)
 .obtain⟨o,ho,hw⟩:=h3 k o' hk;obtain⟨q1,q2,q3⟩:=hr.jR k o ho;exact⟨q1,q2,b4P hw q3⟩
 .obtain⟨o1,ho1,_⟩:=h3 k o hk;obtain⟨o2,ho2,_⟩:=h3 k' o' hk';exact hr.inj k k' o1 o2 ho1 ho2 he
 .have:=g0Z.1 h.keys c hc;have:=g0Z.1 this _ hl;exact Option.isSome_iff_exists.1 this
 .obtain⟨vs,rO⟩:=hr.own;obtain⟨vs',hv',_⟩:=a6i hr st'.own st.own vs ⟨rO.len,rO.one,rO.apart⟩ h.own;refine⟨vs',hv'.len,λi c v hc hv=>?_,hv'.apart⟩;have ho:=hv'.one i c v hc hv;exact⟨ho.eC,ho.own,λk o hk=>by obtain⟨o1,ho1,_⟩:=h3 k o hk;exact ho.keys k o1 ho1⟩
theorem SW.a1H{c:Code}{Q:Exit->St->Prop}(h:wI st st')(hw:SW P G c st' Q):SW P G c st Q:=λbase R μ a w hr=>hw base R μ a w (hr.a1H h)
theorem SW.loop{ι:Type}{c:Code}{Q:Exit->St->Prop}(I:ι->St)(m:ι->Nat)(x0:ι)(h0:wI st (I x0))(round:∀x,VW P G c (I x) λe s=>match e with
   | .normal=>∃y,wI s (I y)/\m y<m x
   |e=>Q e s):SW P G (.loop c) st Q:=by
 intro base R μ a w hr;refine wp_loop_ghost (λn a1 w1=>∃x R1 μ1,m x=n/\Rel P G base R1 μ1 (I x) a1 w1/\Step base R w R1 w1) (m x0) ⟨x0,R,μ,rfl,hr.a1H h0,.refl _ _ _⟩ ?_;rintro n a1 w1 ⟨x,R1,μ1,rfl,hr1,hs1⟩;refine wp_mono (a5p c (I x) _ (round x) base R1 μ1 a1 w1 hr1) λe a2 w2 ⟨s,R2,μ2,q,hr2,hs2⟩=>?_;cases e with
 |normal=>obtain⟨y,hy,aF⟩:=q;exact⟨m y,aF,y,R2,μ2,rfl,hr2.a1H hy,hs1.trans hs2⟩
 |_=>exact⟨s,R2,μ2,q,hr2,hs1.trans hs2⟩
inductive WkD:D->D->Prop
 |refl (d:D):WkD d d
 |aD:WkD .aD (.sl [])
 |agg (cs wF:List D):cs.length=wF.length->(∀(i:Nat) (d d':D),cs[i]? =some d->wF[i]? =some d'->WkD d d')->WkD (.agg cs) (.agg wF)
 |sl (es es':List (List D)):es.length=es'.length->(∀(i:Nat) (e e':List D),es[i]? =some e->es'[i]? =some e'->e.length=e'.length)->
   (∀(i j:Nat) (e e':List D) (d d':D),es[i]? =some e->es'[i]? =some e'->e[j]? =some d->e'[j]? =some d'->WkD d d')->WkD (.sl es) (.sl es')
def WkL(l l':List D):Prop:=l.length=l'.length/\∀(i:Nat) (d d':D),l[i]? =some d->l'[i]? =some d'->WkD d d'
def c1F(l l':List (List D)):Prop:=l.length=l'.length/\∀(i:Nat) (d d':List D),l[i]? =some d->l'[i]? =some d'->WkL d d'
theorem d4K(a b:D)(l l':List D):WkL (a::l) (b::l')=(WkD a b/\WkL l l'):=by
 apply propext;constructor
 .rintro⟨h1,h2⟩;exact⟨h2 0 a b rfl rfl,by simpa using h1,λi d d' q q'=>h2 (i+1) d d' q q'⟩
 .rintro⟨h0,h1,h2⟩;refine⟨by simp[h1],λi d d' q q'=>?_⟩;cases i with
  |zero=>simp at q q';subst q q';exact h0
  |succ i=>exact h2 i d d' q q'
theorem d1K(a b:List D)(l l':List (List D)):c1F (a::l) (b::l')=(WkL a b/\c1F l l'):=by
 apply propext;constructor
 .rintro⟨h1,h2⟩;exact⟨h2 0 a b rfl rfl,by simpa using h1,λi d d' q q'=>h2 (i+1) d d' q q'⟩
 .rintro⟨h0,h1,h2⟩;refine⟨by simp[h1],λi d d' q q'=>?_⟩;cases i with
  |zero=>simp at q q';subst q q';exact h0
  |succ i=>exact h2 i d d' q q'
theorem b5B(l:List D):WkL l l=True:=by simp only[WkL,eq_iff_iff,iff_true];exact⟨trivial,λi d d' h h'=>by rw[h]at h';cases h';exact .refl _⟩
theorem b9Q(l:List (List D)):c1F l l=True:=by simp only[c1F,eq_iff_iff,iff_true];exact⟨trivial,λi d d' h h'=>by rw[h]at h';cases h';rw[b5B];trivial⟩
theorem d4L(d:D):WkD d d=True:=by simp[WkD.refl]
theorem d4M:WkD .aD (.sl [])=True:=by simp[WkD.aD]
theorem d9Z(cs wF:List D):WkD (.agg cs) (.agg wF)=WkL cs wF:=by
 apply propext;constructor
 .intro h;cases h with
  |refl=>rw[b5B];trivial
  |agg _ _ h1 h2=>exact⟨h1,h2⟩
 .rintro⟨h1,h2⟩;exact .agg _ _ h1 h2
theorem e5M(cs wF:List (List D)):WkD (.sl cs) (.sl wF)=c1F cs wF:=by
 apply propext;constructor
 .intro h;cases h with
  |refl=>rw[b9Q];trivial
  |sl _ _ h1 h2 h3=>exact⟨h1,λi e e' q q'=>⟨h2 i e e' q q',λj d d' p p'=>h3 i j e e' d d' q q' p p'⟩⟩
 .rintro⟨h1,h2⟩;exact .sl _ _ h1 (λi e e' q q'=>(h2 i e e' q q').1) (λi j e e' d d' q q' p p'=>(h2 i e e' q q').2 j d d' p p')
theorem e0a(k k':IntKind)(n n':Int):WkD (.int k n) (.int k' n')=(k=k'/\n=n'):=by
 apply propext;constructor
 .intro h;cases h;exact⟨rfl,rfl⟩
 .rintro⟨rfl,rfl⟩;exact .refl _
theorem d4N(a b:Bool):WkD (.bool a) (.bool b)=(a=b):=by
 apply propext;constructor
 .intro h;cases h;rfl
 .rintro rfl;exact .refl _
theorem WkD.one{d d':D}(h:WkD d d'):d'.one=d.one:=by cases h<;>rfl
theorem V.wk{R:Nat->Nat->Prop}{w:World}{v:Value}{d:D}(h:V R w v d):∀ {d':D},WkD d d'->V R w v d':=by
 induction h with
 |int k n=>intro d' hd;cases hd;exact .int k n
 |bool b=>intro d' hd;cases hd;exact .bool b
 |str s=>intro d' hd;cases hd;exact .str s
 |aD ao=>
  intro d' hd;cases hd with
  |refl=>exact .aD ao
  |aD=>exact .emp ao 0
 |emp ao cap=>
  intro d' hd;cases hd with
  |refl=>exact .emp ao cap
  |sl _ es' h1 _ _=>have:es'=[]:=List.eq_nil_of_length_eq_zero (by simpa using h1.symm);subst this;exact .emp ao cap
 |sl b o n cap size es f h1 h2 h3 h4 h5 h6 h7 ih=>
  intro d' hd;cases hd with
  |refl=>exact .sl b o n cap size es f h1 h2 h3 h4 h5 h6 h7
  |sl _ es' q1 q2 q3=>
   have pre:∀(i:Nat) (e':List D),es'[i]? =some e'->∃e,es[i]? =some e:=λi e' he'=>by have hi:i<es'.length:=(g0X.1 he').1;exact⟨es[i]'(by omega),g1a (by omega)⟩
   have f0m:∀(i j:Nat) (e':List D) (d':D),es'[i]? =some e'->e'[j]? =some d'->∃e d,es[i]? =some e/\e[j]? =some d/\WkD d d':=λi j e' d' he' hd'=>by obtain⟨e,he⟩:=pre i e' he';have hl:=q2 i e e' he he';have hj:j<e'.length:=(g0X.1 hd').1;have hjd:e[j]? =some (e[j]'(by omega)):=g1a (by omega);exact⟨e,_,he,hjd,q3 i j e e' _ d' he he' hjd hd'⟩
   refine .sl b o n cap size es' f (by omega) h2 h3 (λe' he'=>?_) h5 (λi j e' d' he' hd'=>?_) (λi j e' d' he' hd'=>?_)
   .obtain⟨i,hi⟩:=g1n he';obtain⟨e,he⟩:=pre i e' hi;rw[<-q2 i e e' he hi];exact h4 e (g1b he)
   .obtain⟨e,d,he,hd,hw⟩:=f0m i j e' d' he' hd';rw[hw.one];exact h6 i j e d he hd
   .obtain⟨e,d,he,hd,hw⟩:=f0m i j e' d' he' hd';exact ih i j e d he hd hw
 |agg cs ds h1 h2 h3 ih=>
  intro d' hd;cases hd with
  |refl=>exact .agg cs ds h1 h2 h3
  |agg _ ds' q1 q2=>
   have pre:∀(i:Nat) (d':D),ds'[i]? =some d'->∃d,ds[i]? =some d/\WkD d d':=λi d' he'=>by have hi:i<ds'.length:=(g0X.1 he').1;have h:=g1a (l:=ds) (i:=i) (by omega);exact⟨_,h,q2 i _ d' h he'⟩
   refine .agg cs ds' (by omega) (λi d' hd'=>?_) (λi d' hd'=>?_)
   .obtain⟨d,hd,hw⟩:=pre i d' hd';rw[hw.one];exact h2 i d hd
   .obtain⟨d,hd,hw⟩:=pre i d' hd';exact ih i d hd hw
def a9o:DV->DV->Prop
 | .d x,.d y=>WkD x y
 | .cI l,.cI l'=>WkL l l'
 |a,b=>a=b
theorem TV.wk{R:Nat->Nat->Prop}{μ:Nat->Nat}{w:World}{v:Value}{r r':DV}(h:TV R μ w v r)(hw:a9o r r'):TV R μ w v r':=by
 cases r<;>cases r'<;>simp only[a9o]at hw<;>try (cases hw;done)
 case d.d x y=>cases h with|d _ _ hv=>exact .d _ _ (hv.wk hw)
 case cI.cI l l'=>
  cases h with
  |cI vs _ h1 h2=>refine .cI vs l' (by rw[h1,hw.1]) λi d' hd'=>?_;have hi:i<l'.length:=(g0X.1 hd').1;have hg:=g1a (l:=l) (i:=i) (by rw[hw.1];exact hi);exact(h2 i _ hg).wk (hw.2 i _ d' hg hd')
 all_goals (cases hw;exact h)
theorem CS.args{f:FuncId}{ds ds':List D}{r:DV}{own:Option TypeId}(h:CS P G f ds' r own)(hd:WkL ds ds'):CS P G f ds r own:=λw R args hg hR hl hv=>h w R args hg hR (by rw[hl,hd.1]) λi d' hd'=>by have hi:i<ds'.length:=(g0X.1 hd').1;have hgt:=g1a (l:=ds) (i:=i) (by rw[hd.1];exact hi);exact(hv i _ hgt).wk (hd.2 i _ d' hgt hd')
theorem CS.res{f:FuncId}{ds:List D}{r r':DV}{own:Option TypeId}(h:CS P G f ds r' own)(hd:a9o r' r):CS P G f ds r own:=λw R args hg hR hl hv=>(h w R args hg hR hl hv).mono λ_ _ ⟨v,R',h1,h2,h3⟩=>⟨v,R',h1,λμ=>(h2 μ).wk hd,h3⟩
def a1J(ds:List D)(n:Nat):St:=⟨ds.map .d++List.replicate (n-ds.length) (.cI []),[],[]⟩
def d4O(P:Program)(s:St):ResultVar->Option D
 | .tmp i=>isD (s.tmps.getD i (.cI []))
 | .cell p ty=>match s.tmps.getD p (.cI [])with
  | .ptr k off=>(match getKey k s.H with
   |some (.cells cs)=>(b2R P ty (cs.drop off)).bind isD
   |_=>none)
  |_=>none
def a6j(P:Program)(s:St):List ResultVar->Option (List D)
 |[]=>some []
 |r::l=>match d4O P s r,a6j P s l with
  |some x,some ds=>some (x::ds)
  |_,_=>none
def d1L(P:Program)(s:St)(rs:List ResultVar):Option DV:=
 match a6j P s rs with
 |some [x]=>some (.d x)
 |some ds=>some (.cI ds)
 |none=>none
def e0b(s:St)(rs:List ResultVar):Option TypeId:=
 match rs with
 |[.tmp i]=>(match s.tmps.getD i (.cI [])with
  | .d (.sl _)=>(jD (.t i) s.own).map (·.1)
  |_=>none)
 |_=>none
def b2g(tmps:Array Value):ResultVar->Sem Value
 | .tmp t=>pure (tmps.getD t undef)
 | .cell p t=>do loadVar t (<-asAddr (tmps.getD p undef))
theorem a9p(fn:Func)(tmps:Array Value):results fn tmps=(do let vs <- fn.results.mapM (b2g tmps);pure (if h:vs.size=1 then vs[0] else .tuple vs)):=by unfold results;congr 1
theorem e0c(hr:Rel P G base R μ st a w){r:ResultVar}{x:D}(h:d4O P st r=some x):∃v,(b2g a.tmps r).run P w=.ok v w/\V R w v x:=by
 cases r with
 |tmp i=>simp only[d4O]at h;have he:=hr.eval (.tmp i);simp only[St.eval,Act.eval]at he;unfold isD at h;split at h<;>simp at h;rename_i y hy;subst h;rw[hy]at he;exact⟨_,rfl,he.a9b⟩
 |cell p ty=>
  simp only[d4O]at h;have he:=hr.eval (.tmp p);simp only[St.eval,Act.eval]at he;split at h
  .rename_i k off hp;split at h
   .rename_i cs hk;rw[hp]at he;obtain⟨_,_,hob⟩:=hr.jR k _ hk;have cW:=(b1Y.a5T hob).drop off;rw[Nat.zero_add]at cW;obtain⟨y,hy,hx⟩:=g1k.1 h;obtain⟨v,h1,h2,_⟩:=yT (P:=P) cW hy;have hyd:y=.d x:=by
     unfold isD at hx;split at hx
     .cases hx;rfl
     .cases hx
    subst hyd;refine⟨v,?_,h2.a9b⟩;unfold b2g;simp only;rw[he.c1r];simp only[asAddr,Sem.run_bind,Sem.run_pure,Result.andThen_ok,h1]
   .cases h
  .cases h
theorem b5C(hr:Rel P G base R μ st a w):∀ {l:List ResultVar} {ds:List D},a6j P st l=some ds->
  ∃vs,(l.mapM (b2g a.tmps)).run P w=.ok vs w/\vs.length=ds.length/\∀(i:Nat) (d:D),ds[i]? =some d->V R w (vs.getD i undef) d
 |[],ds,h=>by simp[a6j]at h;subst h;exact⟨[],by simp,rfl,by simp⟩
 |r::l,ds,h=>by
  simp only[a6j]at h;split at h<;>simp at h;rename_i x ds' hx hds;subst h;obtain⟨v,h1,h2⟩:=e0c hr hx;obtain⟨vs,q1,q2,q3⟩:=b5C hr hds;refine⟨v::vs,?_,by simp[q2],λi d hi=>?_⟩
  .simp only[List.mapM_cons,Sem.run_bind,h1,Result.andThen_ok,q1,Sem.run_pure]
  .cases i with
   |zero=>simp at hi;subst hi;exact h2
   |succ i=>simp at hi;simpa using q3 i d hi
theorem d0l(hr:Rel P G base R μ st a w){fn:Func}{r:DV}(h:d1L P st fn.results.toList=some r):∃v,(results fn a.tmps).run P w=.ok v w/\(∀μ',TV R μ' w v r):=by
 unfold d1L at h;cases hds:a6j P st fn.results.toList with
 |none=>simp[hds]at h
 |some ds=>
  obtain⟨vs,h1,h2,h3⟩:=b5C hr hds;have cW:(results fn a.tmps).run P w=.ok (if h:vs.toArray.size=1 then vs.toArray[0] else .tuple vs.toArray) w:=by rw[a9p,Array.mapM_eq_mapM_toList];simp only[Sem.run_bind,Sem.run_map,h1,Result.andThen_ok,Sem.run_pure]
  refine⟨_,cW,λμ'=>?_⟩;have cI:∀(ds:List D),vs.length=ds.length->(∀(i:Nat) (d:D),ds[i]? =some d->V R w (vs.getD i undef) d)->TV R μ' w (.tuple vs.toArray) (.cI ds):=λds hl hv=>.cI _ _ (by simpa using hl) (λi d hi=>by have:=hv i d hi;simpa[g0Y,List.getD]using this)
  rw[hds]at h
  match ds,h2,h3,h with
  |[],h2,h3,h=>simp at h;subst h;rw[dif_neg (by simp at h2;simp[h2])];exact cI [] h2 h3
  |[x],h2,h3,h=>
   simp at h;subst h
   match vs,h2,h3 with
   |[v],_,h3=>exact .d _ _ (by simpa using h3 0 x rfl)
  |x::y::l,h2,h3,h=>simp at h;subst h;rw[dif_neg (by simp at h2;simp[h2])];exact cI _ h2 h3
theorem e0d(hr:Rel P G base R μ st a w){fn:Func}{e:TypeId}(h:e0b st fn.results.toList=some e){v:Value}(hv:(results fn a.tmps).run P w=.ok v w):qO P base R w e v:=by
 unfold e0b at h;split at h
 .rename_i i hrs;split at h
  .rename_i es hd;simp only[g0V]at h;obtain⟨⟨e',eP⟩,ht,rfl⟩:=h;obtain⟨_,v0,_,hv0,mN,_⟩:=hr.jD ht;have hs:i<a.tmps.size:=by
    rw[hr.size];by_cases aF:i<st.tmps.length
    .exact aF
    .simp[List.getD,List.getElem?_eq_none (Nat.le_of_not_lt aF)]at hd
   have hv1:v=a.tmps.getD i undef:=by
    have d4P:fn.results=#[.tmp i]:=by apply Array.ext';simpa using hrs
    rw[results_tmp d4P a.tmps P w]at hv;exact(by cases hv;rfl)
   rw[hv1,hv0 (a.tmps.getD i undef) (by simp[cP,hs])];exact mN
  .cases h
 .cases h
def c4z(x:Option DV)(r:DV):Prop:=match x with
 |some r0=>a9o r0 r
 |none=>False
theorem b5D{x:Option DV}{r:DV}(h:c4z x r):∃r0,x=some r0/\a9o r0 r:=by
 cases x with
 |none=>cases h
 |some r0=>exact⟨r0,rfl,h⟩
def c4A(s:St)(rs:List ResultVar):Option TypeId->Prop
 |none=>True
 |some e=>e0b s rs=some e\/(match rs with
  |[.tmp i]=>(match s.tmps.getD i (.cI [])with
   | .d .aD=>True
   |_=>False)
  |_=>False)
theorem c4B(hr:Rel P G base R μ st a w){fn:Func}{e:TypeId}(h:c4A st fn.results.toList (some e)){v:Value}(hv:(results fn a.tmps).run P w=.ok v w):qO P base R w e v:=by
 rcases h with h|h
 .exact e0d hr h hv
 .split at h
  .rename_i i hrs;split at h
   .rename_i hd;have d4P:fn.results=#[.tmp i]:=by apply Array.ext';simpa using hrs
    rw[results_tmp d4P a.tmps P w]at hv;cases hv;have he:=hr.eval (.tmp i);simp only[St.eval,Act.eval,hd]at he;obtain⟨ao,h0⟩:=he.a9b.kT;exact .inl ⟨ao,h0⟩
   .cases h
  .cases h
theorem Rel.init(fn:Func){ds:List D}{w:World}{R:Nat->Nat->Prop}{args:Array Value}(hg:a8d G (a0u w.heap.size) R w)(hR:∀b o,R b o->b<w.heap.size)(hl:args.size=ds.length)(hv:∀(i:Nat) (d:D),ds[i]? =some d->V R w (args.getD i undef) d):
  Rel P G (a0u w.heap.size) R (λ_=>0) (a1J ds fn.ntmps) {tmps:=args++Array.replicate (fn.ntmps-args.size) undef,defers:=[]} w:=by
 refine⟨rfl,by simp[a1J,hl],λi v d hiv hid=>?_,λk o hk=>by simp[a1J,getKey]at hk,λk k' o o' hk=>by simp[a1J,getKey]at hk,λc hc=>by simp[a1J]at hc,⟨[],rfl,λi c v hc=>by simp[a1J]at hc,.nil⟩,hg,hR,λ_ h=>h,λ_ _=>rfl⟩;simp only[a1J]at hid;by_cases hi:i<ds.length
 .rw[g1h (by simpa using hi),g1g,g1a hi]at hid;simp at hid;subst hid;have:=hv i ds[i] (g1a hi);rw[Array.getElem?_append_left (by omega)]at hiv;have hg:args.getD i undef=v:=by simp[g0Y,hiv]
  rw[hg]at this;exact .d _ _ this
 .rw[g1e (by simp;omega),List.getElem?_replicate]at hid;split at hid<;>simp at hid;subst hid;rw[Array.getElem?_append_right (by omega),Array.getElem?_replicate]at hiv;split at hiv<;>simp at hiv;subst hiv;exact .cI #[] [] rfl (by simp)
theorem CS.f0n{f:FuncId}{fn:Func}{c:Code}{n:Nat}{ds:List D}{r:DV}{own:Option TypeId}(hf:P.funcs[f]? =some fn)(hb:fn.body=some c)(hn:fn.ntmps=n)(h:VW P G c (a1J ds n) λe s=>(e=.normal\/e=.ret)/\c4z (d1L P s fn.results.toList) r/\c4A s fn.results.toList own):CS P G f ds r own:=by
 intro w R args hg hR hl hv;refine calls_of_wp hf hb ?_;have mW:=Rel.init (P:=P) (G:=G) fn hg hR hl hv;rw[<-hn]at h;refine wp_mono (a5p c _ _ h (a0u w.heap.size) R _ _ w mW) λe a' w' ⟨s,R',μ',⟨he,kF,mN⟩,gD,hs⟩=>?_;obtain⟨r0,kF,hwk⟩:=b5D kF;obtain⟨v,hv1,hv2⟩:=d0l gD kF;have a6k:a'.defers=[]/\∃v,(results fn a'.tmps).run P w'=.ok v w'/\∃v' R',Ending.returned v=.returned v'/\(∀μ,TV R' μ w' v' r)/\Step (a0u w.heap.size) R w R' w'/\(∀b o,R' b o->b<w'.heap.size)/\(∀e,own=some e->qO P (a0u w.heap.size) R' w' e v'):=
  ⟨gD.defers,v,hv1,v,R',rfl,λμ=>(hv2 μ).wk hwk,hs,gD.qP,λe he'=>by subst he';exact c4B gD mN hv1⟩
 rcases he with rfl|rfl
 .exact a6k
 .exact a6k
theorem Enters.mk{f:FuncId}{fn:Func}(hf:P.funcs[f]? =some fn)(h:(fn.body.isNone==false&&(fn.name== "runtime.NumGoroutine")==false)=true):Enters P f:=by
 simp only[g0W,beq_iff_eq]at h;exact⟨fn,hf,h.1,h.2⟩
end
inductive KI where
 |code (c:Code)
 |blk (id:Nat)
 |ops (q:Bool) (all:Array Oper) (rest:List Oper)
 |scp
def VK(P:Program)(G:GT):List KI->Exit->St->(Exit->St->Prop)->Prop
 |[],e,st,Q=>Q e st
 | .code c::k,.normal,st,Q=>VW P G c st λe s=>VK P G k e s Q
 | .code _::k,e,st,Q=>VK P G k e st Q
 | .blk id::k,.exit id',st,Q=>if id'=id then VK P G k .normal st Q else VK P G k (.exit id') st Q
 | .blk _::k,e,st,Q=>VK P G k e st Q
 | .ops q all rest::k,.normal,st,Q=>vG P G q all rest st λs=>VK P G k .normal s Q
 | .ops _ _ _::k,e,st,Q=>VK P G k e st Q
 | .scp::_,.goto _,_,_=>False
 | .scp::k,e,st,Q=>VK P G k e st Q
def c4C(P:Program)(G:GT)(v:DV)(x y:Code)(k:List KI)(st:St)(Q:Exit->St->Prop):Prop:=
 match v with
 | .d (.bool t)=>if t then VK P G (.code x::k) .normal st Q else VK P G (.code y::k) .normal st Q
 | .qF=>VK P G (.code x::k) .normal st Q/\VK P G (.code y::k) .normal st Q
 |_=>False
section
variable {P:Program} {G:GT} {k:List KI} {st:St} {Q:Exit->St->Prop}
theorem e5N(e:Exit):VK P G [] e st Q=Q e st:=rfl
theorem e0f:VK P G (.code .skip::k) .normal st Q=VK P G k .normal st Q:=rfl
theorem e5O(x y:Code):VK P G (.code (.seq x y)::k) .normal st Q=VK P G (.code x::.code y::k) .normal st Q:=by simp only[VK,VW];congr 1;funext e s;cases e<;>rfl
theorem e0g(c:Operand)(x y:Code):VK P G (.code (.cond c x y)::k) .normal st Q=c4C P G (st.eval G c) x y k st Q:=rfl
theorem d4Q(id:Nat)(c:Code):VK P G (.code (.block id c)::k) .normal st Q=VK P G (.code c::.blk id::k) .normal st Q:=by simp only[VK,VW];congr 1;funext e s;cases e<;>rfl
theorem d4R(l:Nat):VK P G (.code (.label l)::k) .normal st Q=VK P G k .normal st Q:=rfl
theorem b8B:VK P G (.scp::k) .normal st Q=VK P G k .normal st Q:=rfl
theorem c8i:VK P G (.scp::k) .ret st Q=VK P G k .ret st Q:=rfl
theorem c4D(id:Nat):VK P G (.scp::k) (.exit id) st Q=VK P G k (.exit id) st Q:=rfl
theorem d1M(id:Nat)(ops:Array Oper):VK P G (.code (.region id ops false)::k) .normal st Q=VK P G (.ops false ops ops.toList::k) .normal st Q:=by simp only[VK,VW];simp
def kV(P:Program)(ops:Array Oper):Prop:=P.follows .mixedOrders=true/\d4C ops=true
theorem kV.mk{ops:Array Oper}(h:(P.follows .mixedOrders&&d4C ops)=true):kV P ops:=by simpa[kV]using h
theorem d4S(id:Nat)(ops:Array Oper):VK P G (.code (.region id ops true)::k) .normal st Q=(kV P ops/\b2d ops st=true/\VK P G (.ops true ops ops.toList::k) .normal st Q):=by simp only[VK,VW,kV];simp[and_assoc]
theorem e0h(id:Nat):VK P G (.code (.exit id)::k) .normal st Q=VK P G k (.exit id) st Q:=rfl
theorem e5P:VK P G (.code .ret::k) .normal st Q=VK P G k .ret st Q:=rfl
theorem e0i(c:Code):VK P G (.code (.loop c)::k) .normal st Q=SW P G (.loop c) st (λe s=>VK P G k e s Q):=rfl
theorem c4E(c:Code):VK P G (.code c::k) .ret st Q=VK P G k .ret st Q:=rfl
theorem c1G(c:Code)(id:Nat):VK P G (.code c::k) (.exit id) st Q=VK P G k (.exit id) st Q:=rfl
theorem b8C(id:Nat):VK P G (.blk id::k) .normal st Q=VK P G k .normal st Q:=rfl
theorem c8j(id:Nat):VK P G (.blk id::k) .ret st Q=VK P G k .ret st Q:=rfl
theorem c4F(id id':Nat):VK P G (.blk id::k) (.exit id') st Q=if id'=id then VK P G k .normal st Q else VK P G k (.exit id') st Q:=rfl
theorem c8k(q:Bool)(all:Array Oper):VK P G (.ops q all []::k) .normal st Q=VK P G k .normal st Q:=rfl
def aC(P:Program)(G:GT)(q ro qn:Bool)(f:FuncId)(ds:List D)(ls:List (Option Loc))(dst:Option Tmp)(all:Array Oper)(rest:List Oper)(k:List KI)(st:St)(Q:Exit->St->Prop):Prop:=
 (∃r own,(Enters P f/\CS P G f ds r own)/\(q=true->pK r=true)/\VK P G (.ops q all rest::k) .normal (finish st dst r (if qn then .no else a6b own)) Q)\/
 (ro=false/\∃s',(Enters P f/\oD P G f (ds.map .d) ls st dst s')/\VK P G (.ops q all rest::k) .normal s' Q)
theorem aC.mk{q ro qn:Bool}{ls:List (Option Loc)}{f:FuncId}{ds:List D}{r:DV}{own:Option TypeId}{dst:Option Tmp}{all:Array Oper}{rest:List Oper}(he:Enters P f)(hc:CS P G f ds r own)(h:VK P G (.ops q all rest::k) .normal (finish st dst r (if qn then .no else a6b own)) Q)(hkl:pK r=true:=by rfl):aC P G q ro qn f ds ls dst all rest k st Q:=.inl ⟨r,own,⟨he,hc⟩,λ_=>hkl,h⟩
def b9R(P:Program)(G:GT)(q:Bool)(x:Option Out)(dst:Option Tmp)(all:Array Oper)(rest:List Oper)(k:List KI)(Q:Exit->St->Prop):Prop:=
 match x with
 |some out=>VK P G (.ops q all rest::k) .normal (finish out.st dst out.v out.act) Q
 |none=>False
theorem c8l{q:Bool}{st':St}{v:DV}{act:OA}{dst:Option Tmp}{all:Array Oper}{rest:List Oper}:b9R P G q (some ⟨v,act,st'⟩) dst all rest k Q=VK P G (.ops q all rest::k) .normal (finish st' dst v act) Q:=rfl
theorem c8m(x y:Code):c4C P G (.d (.bool true)) x y k st Q=VK P G (.code x::k) .normal st Q:=rfl
theorem d1N(x y:Code):c4C P G .qF x y k st Q=(VK P G (.code x::k) .normal st Q/\VK P G (.code y::k) .normal st Q):=rfl
theorem c4G(x y:Code):c4C P G (.d (.bool false)) x y k st Q=VK P G (.code y::k) .normal st Q:=rfl
def jB(P:Program)(G:GT)(q ro:Bool)(f:FuncId)(g0U:List DV)(ls:List (Option Loc))(dst:Option Tmp)(all:Array Oper)(rest:List Oper)(k:List KI)(st:St)(Q:Exit->St->Prop):Prop:=
 a2y P G ro f g0U ls dst st λs=>VK P G (.ops q all rest::k) .normal s Q
def b3g(P:Program)(G:GT)(q:Bool)(o:Oper)(all:Array Oper)(rest:List Oper)(k:List KI)(st:St)(Q:Exit->St->Prop):Prop:=
 match kB G o st with
 |some (f,ds)=>aC P G q (tD q all o) (q&& !uZ all o) f ds (mM o) o.dst all rest k st Q
 |none=>
  match dK G o st with
  |some (f,g0U)=>jB P G q (tD q all o) f g0U (mM o) o.dst all rest k st Q
  |none=>b9R P G q ((mV P G o st).map λout=>⟨out.v,b0r q all o out.v out.act,out.st⟩) o.dst all rest k Q
def a4u(P:Program)(G:GT)(q:Bool)(y:DV)(want:Bool)(o:Oper)(all:Array Oper)(rest:List Oper)(k:List KI)(st:St)(Q:Exit->St->Prop):Prop:=
 match y with
 | .undef=>False
 | .qF=>False
 | .d (.bool b)=>if b=want then b3g P G q o all rest k st Q else VK P G (.ops q all rest::k) .normal (finish st o.dst (.cI []) .no) Q
 |_=>VK P G (.ops q all rest::k) .normal (finish st o.dst (.cI []) .no) Q
theorem a2A(q:Bool)(b want:Bool)(o:Oper)(all:Array Oper)(rest:List Oper):a4u P G q (.d (.bool b)) want o all rest k st Q=if b=want then b3g P G q o all rest k st Q else VK P G (.ops q all rest::k) .normal (finish st o.dst (.cI []) .no) Q:=rfl
theorem c8n(q:Bool)(ds:List D)(want:Bool)(o:Oper)(all:Array Oper)(rest:List Oper):a4u P G q (.cI ds) want o all rest k st Q=VK P G (.ops q all rest::k) .normal (finish st o.dst (.cI []) .no) Q:=rfl
theorem b3h(q:Bool)(all:Array Oper)(o:Oper)(rest:List Oper):VK P G (.ops q all (o::rest)::k) .normal st Q=match eJ o all st.tmps with
  |some true=>b3g P G q o all rest k st Q
  |some false=>VK P G (.ops q all rest::k) .normal (finish st o.dst (.cI []) .no) Q
  |none=>False:=by
 simp only[VK,vG,pC,b3g,aC,jB,b9R];split<;>rename_i hw<;>(try simp only[hw]);split<;>rename_i hc<;>(try simp only[hc]);generalize dK G o st=x;cases x with
 |some p=>rfl
 |none=>cases mV P G o st<;>rfl
theorem c4H(q:Bool)(all:Array Oper)(dst:Option Tmp)(op:Op)(ty:TypeId)(pos:String)(after:Array Edge)(rest:List Oper):
  VK P G (.ops q all (⟨dst,op,ty,pos,after,none⟩::rest)::k) .normal st Q=b3g P G q ⟨dst,op,ty,pos,after,none⟩ all rest k st Q:=by
 rw[b3h]
 rfl
theorem c1H(q:Bool)(all:Array Oper)(dst:Option Tmp)(op:Op)(ty:TypeId)(pos:String)(after:Array Edge)(j:Nat)(want:Bool)(rest:List Oper):
  VK P G (.ops q all (⟨dst,op,ty,pos,after,some (j,want)⟩::rest)::k) .normal st Q=a4u P G q (vK all st.tmps j) want ⟨dst,op,ty,pos,after,some (j,want)⟩ all rest k st Q:=by
 rw[b3h];simp only[eJ,a4u];generalize vK all st.tmps j=y;cases y with
 |d x=>
  cases x with
  |bool b=>cases b<;>cases want<;>rfl
  |_=>rfl
 |_=>rfl
theorem CS.aX{f:FuncId}{fn:Func}{c:Code}{n:Nat}{ds:List D}{r:DV}{own:Option TypeId}(hf:P.funcs[f]? =some fn)(hb:fn.body=some c)(hn:fn.ntmps=n){rs:List ResultVar}(hrs:fn.results.toList=rs)(h:VK P G [.code c] .normal (a1J ds n) λe s=>(e=.normal\/e=.ret)/\c4z (d1L P s rs) r/\c4A s rs own):CS P G f ds r own:=by subst hrs;exact CS.f0n hf hb hn h
theorem jB.mk'{q ro:Bool}{ls:List (Option Loc)}{f:FuncId}{g0U:List DV}{dst:Option Tmp}{all:Array Oper}{rest:List Oper}(h:∃s',(Enters P f/\oD P G f g0U ls st dst s')/\VK P G (.ops q all rest::k) .normal s' Q)(hro:ro=false):jB P G q ro f g0U ls dst all rest k st Q:=by subst hro;exact h
theorem aC.eP{q ro qn:Bool}{ls:List (Option Loc)}{f:FuncId}{ds:List D}{dst:Option Tmp}{all:Array Oper}{rest:List Oper}(h:∃s',(Enters P f/\oD P G f (ds.map .d) ls st dst s')/\VK P G (.ops q all rest::k) .normal s' Q)(hro:ro=false):aC P G q ro qn f ds ls dst all rest k st Q:=.inr ⟨hro,h⟩
theorem jB.ro'{q ro:Bool}{ls:List (Option Loc)}{f:FuncId}{g0U:List DV}{dst:Option Tmp}{all:Array Oper}{rest:List Oper}{d:DV}{ks:List Nat}(he:Enters P f)(hr:RO P G f g0U ks st.H d)(hn:mY ks st.own=true)(hks:(ks.all λk=>(getKey k st.H).isSome)=true)(hkl:pK d=true)(h:VK P G (.ops q all rest::k) .normal (finish st dst d .no) Q):jB P G q ro f g0U ls dst all rest k st Q:=by
 cases ro
 .exact⟨_,⟨he,hr st (λ_ _=>rfl) hn dst ls⟩,h⟩
 .exact⟨d,ks,⟨he,hr,hn,hks,hkl⟩,h⟩
theorem c4I{c:Code}(h:VK P G [.code c] .normal st Q):VW P G c st Q:=h
theorem SW.f0o{ι:Type}{c:Code}(I:ι->St)(m:ι->Nat)(x0:ι)(h0:wI st (I x0))(round:∀x,VK P G [.code c] .normal (I x) λe s=>match e with
   | .normal=>∃y,wI s (I y)/\m y<m x
   |e=>Q e s):SW P G (.loop c) st Q:=SW.loop I m x0 h0 round
end
attribute [irreducible] VK aC jB b9R c4C a4u
end Go.VM
namespace Go.VM
open Go Go.RowKit
attribute [simp] b9w takeA d4R b8B c8i c4D e5N e0f e5O e0g d4Q d1M d4S b0r a8f uZ a2x b4M dI e0h e5P e0i c4E c1G b8C c8j c4F c8k c4H c1H b3g c8l c8m c4G d1N c8n vK kB dK a7r wB DV.cell b2R b9v b4Z cellOf a2r c1m c1p mentions oT a2q b2d gE eW cR uK Loc.a0a pK mM a5Q a7s a0t b0i mV d1o d1p a3D b5a b1W d9H a8W tN b2S sU wN c7I b5b c1n a1t vUn b5c b0j a7t a1u a1v a8X a8Y tO tP a8Z c1o c9W d1n a4j b4I tQ St.eval ofConst zZ yP finish eO gK getKey bU a1r oC mX cZ dropKey addAlias Loc.a0a tM wC takeD pV d4c d9G c7H a1s a0O tB a0b uH overwrite b9u isD yQ a3d idx bound hZ findKeyD a7p a7q jD d9I c9V d1m yR D.one D.cells a6b a1J d4O a6j d1L e0b
def c1I:Code->List Nat
 | .region _ ops _=>ops.toList.filterMap (·.dst)
 | .seq a b=>c1I a++c1I b
 | .cond _ a b=>c1I a++c1I b
 | .block _ c=>c1I c
 | .scope c=>c1I c
 | .loop c=>c1I c
 |_=>[]
def b5E:List Nat->List DV->List DV
 |[],l=>l
 |i::r,l=>b5E r (l.set i .undef)
def c8o:List (Nat×DV)->List DV->List DV
 |[],l=>l
 |(i,v)::r,l=>c8o r (l.set i v)
def gS(c:Code)(st:St)(ws:List (Nat×DV))(H:List (Nat×bD))(own:List (TypeId×List Loc)):St:=⟨c8o ws (b5E (c1I c) st.tmps),H,own⟩
theorem d4T(s s':St):wI s s'↔WkT s.tmps s'.tmps/\WkH s.H s'.H/\b0x s s.own s'.own=true/\bH s'.H s'.own=true:=⟨λh=>⟨h.tmps,h.H,h.own,h.keys⟩,λh=>⟨h.1,h.2.1,h.2.2.1,h.2.2.2⟩⟩
def bC{ι:Type}(F:ι->St)(m:ι->Nat)(x:ι)(s:St):Prop:=∃y,wI s (F y)/\m y<m x
theorem bC.mk{ι:Type}{F:ι->St}{m:ι->Nat}{x:ι}{s:St}(y:ι)(h:wI s (F y))(hm:m y<m x):bC F m x s:=⟨y,h,hm⟩
theorem SW.eX{P:Program}{G:GT}{st:St}{Q:Exit->St->Prop}{c:Code}{ι:Type}(ws:ι->List (Nat×DV))(H:ι->List (Nat×bD))(own:ι->List (TypeId×List Loc))(m:ι->Nat)(x0:ι)(h0:wI st (gS c st (ws x0) (H x0) (own x0)))(round:∀x,VK P G [.code c] .normal (gS c st (ws x) (H x) (own x)) λe s=>match e with
   | .normal=>bC (λy=>gS c st (ws y) (H y) (own y)) m x s
   |e=>Q e s):SW P G (.loop c) st Q:=SW.f0o (λx=>gS c st (ws x) (H x) (own x)) m x0 h0 round
attribute [irreducible] bC
attribute [simp] c1I b5E c8o gS d4T WkT WkO WkH b0x b5z isNil a0T bH
theorem d1O{P:Program}{G:GT}{k:List KI}{st:St}{Q:Exit->St->Prop}{q:Bool}(o:Oper)(all:Array Oper)(rest:List Oper):a4u P G q (.d (.bool true)) true o all rest k st Q=b3g P G q o all rest k st Q:=by rw[a2A,if_pos rfl]
theorem d1P{P:Program}{G:GT}{k:List KI}{st:St}{Q:Exit->St->Prop}{q:Bool}(o:Oper)(all:Array Oper)(rest:List Oper):a4u P G q (.d (.bool false)) false o all rest k st Q=b3g P G q o all rest k st Q:=by rw[a2A,if_pos rfl]
theorem d1Q{P:Program}{G:GT}{k:List KI}{st:St}{Q:Exit->St->Prop}{q:Bool}(o:Oper)(all:Array Oper)(rest:List Oper):a4u P G q (.d (.bool true)) false o all rest k st Q=VK P G (.ops q all rest::k) .normal (finish st o.dst (.cI []) .no) Q:=by rw[a2A,if_neg (by decide)]
theorem d1R{P:Program}{G:GT}{k:List KI}{st:St}{Q:Exit->St->Prop}{q:Bool}(o:Oper)(all:Array Oper)(rest:List Oper):a4u P G q (.d (.bool false)) true o all rest k st Q=VK P G (.ops q all rest::k) .normal (finish st o.dst (.cI []) .no) Q:=by rw[a2A,if_neg (by decide)]
attribute [simp] d1O d1P d1Q d1R
attribute [simp] d4K d1K b5B b9Q d4L d4M d9Z e5M e0a d4N a9o c4z c4A
theorem e0j(a b:Int):(a==b)=decide (a=b):=rfl
theorem e0k(a b:Int):(a !=b)= !decide (a=b):=rfl
theorem e5Q(a b:List UInt8):(a==b)=decide (a=b):=by by_cases h:a=b<;>simp[h]
attribute [simp] e0j e0k e5Q
theorem c4J(n m:Nat):((no_index (OfNat.ofNat n):Int)<=(m:Int))=((OfNat.ofNat n:Nat)<=m):=propext Int.ofNat_le
theorem c4K(n m:Nat):((m:Int)<=(no_index (OfNat.ofNat n):Int))=(m<=(OfNat.ofNat n:Nat)):=propext Int.ofNat_le
theorem c4L(n m:Nat):((no_index (OfNat.ofNat n):Int)<(m:Int))=((OfNat.ofNat n:Nat)<m):=propext Int.ofNat_lt
theorem c4M(n m:Nat):((m:Int)<(no_index (OfNat.ofNat n):Int))=(m<(OfNat.ofNat n:Nat)):=propext Int.ofNat_lt
theorem c4N(n m:Nat):((m:Int)=(no_index (OfNat.ofNat n):Int))=(m=(OfNat.ofNat n:Nat)):=propext Int.ofNat_inj
theorem c1J(n m:Nat):(((n:Int)+1)<=(m:Int))=(n+1<=m):=by apply propext;omega
theorem c1K(n m:Nat):(((n:Int)+1)<(m:Int))=(n+1<m):=by apply propext;omega
theorem c4O(n:Nat):(0<=(n:Int)+1)=True:=by apply propext;simp;omega
attribute [simp] c1J c1K c4O
attribute [simp] c4J c4K c4L c4M c4N
end Go.VM
end
