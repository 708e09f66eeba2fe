/- Lemmas that the law of this claim needs (Z2). No condition. -/
import Derived.Test.YtjpodcmhcenjjaaGreatDoorOba
import Derived.Deep.LoopGhost
import Derived.Orders
import Derived.Scope
set_option linter.unusedVariables false
set_option linter.unusedSimpArgs false
set_option linter.unusedSectionVars false
set_option maxRecDepth 100000
set_option maxHeartbeats 64000000
section
namespace Go.VM
open Go Go.RowKit
section
variable {P:Program} {G:GT} {st:St} {out:Out}
variable {base:cN} {R R':Nat->Nat->Prop} {μ:Nat->Nat} {a:Act} {w w':World}
theorem d2D{o:Oper}{x y:Operand}{ts:Array TypeId}(ho:o.op=.call {callee:=.builtin .max,args:=#[x,y],argTypes:=ts})(h:c4N G x y st=some out):qF P G o st out:=by
 unfold c4N at h;split at h
 .rename_i k a k' b hx hy;simp only[f2T]at h;subst h;refine bH λbase R μ a w hr=>⟨_,?_,.d _ _ (.int _ _),trivial⟩;simp[execOp,ho,resolve,invoke,builtin,Builtin.max_,Builtin.max2,hr.tX hx,hr.tX hy]
 .cases h
theorem d2E{o:Oper}{x y:Operand}{ts:Array TypeId}(ho:o.op=.call {callee:=.builtin .min,args:=#[x,y],argTypes:=ts})(h:c4O G x y st=some out):qF P G o st out:=by
 unfold c4O at h;split at h
 .rename_i k a k' b hx hy;simp only[f2T]at h;subst h;refine bH λbase R μ a w hr=>⟨_,?_,.d _ _ (.int _ _),trivial⟩;simp[execOp,ho,resolve,invoke,builtin,Builtin.min_,Builtin.min2,hr.tX hx,hr.tX hy]
 .cases h
theorem b8D{o:Oper}{b:Builtin}{args:Array Operand}{ts:Array TypeId}(ho:o.op=.call {callee:=.builtin b,args:=args,argTypes:=ts})(h:qZ P G b args.toList ts.toList st=some out):qF P G o st out:=by
 obtain⟨args⟩:=args;obtain⟨ts⟩:=ts;simp only at h;unfold qZ at h;split at h
 .exact d2v ho h
 .exact c1H ho h
 .exact c1E ho rfl h
 .exact d2D ho h
 .exact d2E ho h
 .cases h
theorem b6l{o:Oper}{fn:Fn}{first captured:Array Operand}(ho:o.op=.makeFunc fn first captured)(h:a4z G fn first captured st=some out):qF P G o st out:=by
 unfold a4z at h;split at h
 .rename_i f;split at h
  .rename_i hf;simp only[f2T]at h;subst h;have hf':first=#[]:=by simpa using hf
   refine bH λbase R μ a w hr=>⟨.func (.func f) #[] (captured.map a.eval),by simp[execOp,ho,Instr.makeFunc,hf'],?_,trivial⟩;split
   .rename_i hc;have xA:captured=#[]:=by simpa using hc
    subst xA;rw[show Array.map a.eval #[]=#[] by simp];exact .fn f
   .refine .clo f _ _ (by simp) λi c hi=>?_;rw[f2X]at hi;obtain⟨x,hx,rfl⟩:=f2M.1 hi;have:(captured.map a.eval).getD i Go.undef=a.eval x:=by
     have hx':captured[i]? =some x:=by simpa using hx
     simp[f2P,hx']
    rw[this];exact hr.eval x
  .cases h
 .cases h
theorem d8d{o:Oper}(h:jT P G o st=some out):qF P G o st out:=by
 unfold jT at h;split at h
 .exact b8m (.inl ‹_›) h
 .exact b8m (.inr ‹_›) h
 .exact c7n ‹_› h
 .exact b4L ‹_› h
 .exact d2A ‹_› h
 .exact b4J ‹_› h
 .exact b1n ‹_› h
 .exact b8n ‹_› h
 .exact a4C ‹_› h
 .exact b6i ‹_› h
 .exact c7q ‹_› h
 .exact d7U ‹_› h
 .exact c7s ‹_› h
 .exact b8w ‹_› h
 .exact b6l ‹_› h
 .exact c1z ‹_› h
 .exact b3M ‹_› h
 .exact b8o ‹_› h
 .exact c4Q ‹_› h
 .exact c4R ‹_› h
 .exact b3I ‹_› h
 .exact b3J ‹_› h
 .exact c4U ‹_› h
 .exact c4Y ‹_› h
 .exact c7x ‹_› h
 .exact b8D ‹_› h
 .cases h
end
section
variable (P:Program) (G:GT)
def a3z:Option TypeId->OA
 |some e=>.fresh e
 |none=>.no
def Enters(f:FuncId):Prop:=∃fn,P.funcs[f]? =some fn/\fn.body.isNone=false/\(fn.name== "runtime.NumGoroutine")=false
def cO:Op->Bool
 | .move _| .assign _| .pick _ _ _| .build _ _| .buildSlice _ _ _| .load _ _| .nilCheck _| .binOp _ _ _ _ _| .unOp _ _ _| .convert _ _ _| .lookup _ _ _ _| .extract _ _| .field _ _ _| .index _ _ _| .indexAddr _ _ _| .fieldAddr _ _ _| .slice _ _ _ _ _=>true
 | .call {callee:=.value _, .. }=>true
 | .call {callee:=.builtin .len, .. }=>true
 | .call {callee:=.builtin .max, .. }=>true
 | .call {callee:=.builtin .min, .. }=>true
 |_=>false
def a0o:List Oper->List Tmp
 |[]=>[]
 |o::r=>match o.op with
  | .call {callee:=.builtin .append,args, .. }=>match args.toList with
   | .tmp i::_=>i::a0o r
   |_=>a0o r
  |_=>a0o r
def b0J:List Oper->List Tmp
 |[]=>[]
 |o::r=>match o.op,o.dst with
  | .call {callee:=.builtin .append, .. },some i=>i::b0J r
  |_,_=>b0J r
def sA(all:Array Oper)(o:Oper):Bool:=
 match o.guard,o.op,o.dst with
 |none,.move (.tmp j),some i=>j !=i&&(a0o all.toList).contains i
 |none,.assign (.tmp j),some i=>j !=i&&(b0J all.toList).contains j
 |none,.load _ (.tmp _),some i=>(a0o all.toList).contains i
 |none,.call {callee:=.value _, .. },some i=>(a0o all.toList).contains i
 |none,.buildSlice _ _ _,some i=>(a0o all.toList).contains i
 |_,_,_=>false
def a5d(all:Array Oper)(o:Oper)(act:OA):OA:=if sA all o then act else .no
def a7d(q:Bool)(all:Array Oper)(o:Oper)(_:DV)(act:OA):OA:=if q&&cO o.op then a5d all o act else act
def mP(f:FuncId)(f2L:List DV)(ls:List (Option Loc))(st:St)(dst:Option Tmp)(s':St):Prop:=
 ∀(base:cN) (R:Nat->Nat->Prop) (μ:Nat->Nat) (a:Act) (w:World) (args:Array Value),Rel P G base R μ st a w->args.size=f2L.length->(∀(i:Nat) (d:DV),f2L[i]? =some d->TV R μ w (args.getD i undef) d)->
  (∀(i:Nat) (l:Loc),ls[i]? =some (some l)->∀u,bZ a w μ l=some u->u=args.getD i undef)->
  Calls P f args w λe w'=>∃v R' μ',e=.returned v/\Rel P G base R' μ' s' (a.put dst v) w'/\Step base R w R' w'
def rowsOf:List Oper->Nat->List Nat->List Nat
 |[],_,rows=>rows
 |o::r,n,rows=>Nat.rec (rowsOf r (n+1) (0::rows)) (λm _=>rowsOf r (n+1) (Nat.succ m::rows)) (o.after.toList.foldl (λacc e=>if Region.binds .any e=true/\e.on<n then acc |||((1 <<<e.on) |||rows.getD (n-1-e.on) 0) else acc) 0)
def eZ(ops:Array Oper)(_ j i:Nat):Bool:=decide (j<ops.size)&&((rowsOf ops.toList 0 []).getD (ops.size-1-j) 0).testBit i
def kI(all:Array Oper)(o:Oper):Bool:=(List.range all.size).all λk=>match all[k]? with
 |some o'=>o'.dst !=o.dst||(List.range all.size).all λj=>j==k||eZ all all.size j k||eZ all all.size k j
 |none=>true
def c7G(ks:List Nat):Loc->Bool
 | .c k _=> !ks.contains k
 | .t _=>true
def jW(ks:List Nat)(own:List (TypeId×List Loc)):Bool:=own.all λc=>c.2.all (c7G ks)
def qM:DV->Bool
 | .ptr _ _=>false
 | .mp _=>false
 | .it _=>false
 | .clo _ _=>false
 | .ag _=>false
 |_=>true
def RO(f:FuncId)(f2L:List DV)(ks:List Nat)(H:List (Nat×aW))(d:DV):Prop:=
 ∀st:St,(∀k∈ks,getKey k st.H=getKey k H)->jW ks st.own=true->∀dst ls,mP P G f f2L ls st dst (finish st dst d .no)
def a0p(ro:Bool)(f:FuncId)(f2L:List DV)(ls:List (Option Loc))(dst:Option Tmp)(st:St)(K:St->Prop):Prop:=
 if ro=true then ∃d ks,(Enters P f/\RO P G f f2L ks st.H d/\jW ks st.own=true/\(ks.all λk=>(getKey k st.H).isSome)=true/\qM d=true)/\K (finish st dst d .no)
 else ∃s',(Enters P f/\mP P G f f2L ls st dst s')/\K s'
def dV(o:Oper):Bool:=match o.op,o.dst with
 | .alloc _,some _=>true
 |_,_=>false
def eA(ops:Array Oper):List Nat:=ops.toList.filterMap λo=>if dV o then o.dst else none
def qN(q:Bool)(all:Array Oper)(o:Oper):Bool:=q&&(!kI all o|| !(eA all).isEmpty)
def mE(q:Bool)(all:Array Oper)(o:Oper)(K:St->Prop)(st:St):Prop:=
 match dJ o all st.tmps with
 |some true=>
  match gJ G o st with
  |some (f,ds)=>(∃r own,(Enters P f/\CS P G f ds r own)/\(q=true->qM r=true)/\K (finish st o.dst r (if q&& !sA all o then .no else a3z own)))\/
   (qN q all o=false/\∃s',(Enters P f/\mP P G f (ds.map .d) (jL o) st o.dst s')/\K s')
  |none=>
   match cR G o st with
   |some (f,f2L)=>a0p P G (qN q all o) f f2L (jL o) o.dst st K
   |none=>
    match jT P G o st with
    |some out=>K (finish out.st o.dst out.v (a7d q all o out.v out.act))
    |none=>False
 |some false=>K (finish st o.dst (.cJ []) .no)
 |none=>False
def sE(q:Bool)(all:Array Oper):List Oper->St->(St->Prop)->Prop
 |[],st,K=>K st
 |o::rest,st,K=>mE P G q all o (λs=>sE q all rest s K) st
def a2c(o:Oper):Bool:=match o.op with
 | .call {callee:=.value _, .. }=>true
 |_=>false
def isApp(o:Oper):Bool:=match o.op with
 | .call {callee:=.builtin .append, .. }=>true
 |_=>false
def b0n(o:Oper):Bool:=match o.op,o.dst with
 | .store _ _ _,none=>true
 |_,_=>false
def a6e:Op->Bool
 | .move _| .assign _| .pick _ _ _| .nilCheck _| .binOp _ _ _ _ _| .unOp _ _ _| .convert _ _ _| .extract _ _| .field _ _ _| .index _ _ _| .indexAddr _ _ _| .fieldAddr _ _ _| .slice _ _ _ _ _=>true
 |_=>false
def oD(o:Oper):Bool:=isApp o||dV o||b0n o
def c5d(all:Array Oper)(o:Oper):Bool:=(cO o.op||isApp o||dV o||(match o.op with
 | .store _ _ _=>true
 | .mapUpdate _ _ _ _=>true
 |_=>false))
def pI(all:Array Oper)(x y:Oper):Bool:=(cO x.op&&cO y.op&& !(sA all x&&sA all y))||(cO x.op&&isApp y&& !sA all x)||(isApp x&&cO y.op&& !sA all y&& !a2c y)||(cO x.op&&dV y)||(dV x&&cO y.op&& !a2c y)||((isApp x||dV x)&&(isApp y||dV y)&&(dV x||dV y))||(a6e x.op&& !sA all x&&b0n y)||(b0n x&&a6e y.op&& !sA all y)
def rO(k:Nat):aW->Bool
 | .cells cs=>cs.all λc=> !mentions k c
 |_=>true
def cA(k:Nat)(st:St):Bool:=(st.tmps.all λv=> !mentions k v)&&(st.H.all λp=>p.1 !=k&&rO k p.2)&&(st.own.all λc=>c.2.all λl=> !l.wN k)
def a8z(ops:Array Oper)(st:St):Bool:=(eA ops).all λk=>cA k st
def lexFrom(ops:Array Oper):Nat->Nat->Array Bool->Bool
 |0,_,listed=>(Region.ready .any ops listed).isEmpty
 |fuel+1,k,listed=>(Region.ready .any ops listed).contains k&&
  (match ops[k]? with
  |none=>false
  |some oi=>
   (List.range ops.size).all λj=>j==k||listed.getD j true||eZ ops ops.size j k||(match ops[j]? with
    |some oj=>oi.apart ops oj&&pI ops oi oj
    |none=>true))&&
  lexFrom ops fuel (k+1) (listed.setIfInBounds k true)
def c7H(ops:Array Oper):Bool:=((eA ops).isEmpty||(ops.toList.all (c5d ops)&&decide ((eA ops).Nodup)))&&lexFrom ops ops.size 0 (Array.replicate ops.size false)
def VW:Code->St->(Exit->St->Prop)->Prop
 | .skip,st,Q=>Q .normal st
 | .region _ ops draw,st,Q=>(draw=true->P.follows .mixedOrders=true/\c7H ops=true/\a8z ops st=true)/\sE P G draw ops ops.toList st λs=>Q .normal s
 | .seq x y,st,Q=>VW x st λe s=>match e with
  | .normal=>VW y s Q
  |e=>Q e s
 | .cond c x y,st,Q=>
  match st.eval G c with
  | .d (.bool t)=>if t then VW x st Q else VW y st Q
  | .pC=>VW x st Q/\VW y st Q
  |_=>False
 | .block id c,st,Q=>VW c st λe s=>match e with
  | .exit id'=>if id'=id then Q .normal s else Q (.exit id') s
  |e=>Q e s
 | .loop c,st,Q=>SW P G (.loop c) st Q
 | .exit id,st,Q=>Q (.exit id) st
 | .ret,st,Q=>Q .ret st
 | .label _,st,Q=>Q .normal st
 | .scope c,st,Q=>VW c st λe s=>match e with
  | .goto _=>False
  |e=>Q e s
 |_,_,_=>False
end
section
variable {P:Program} {G:GT} {st:St} {out:Out}
variable {base:cN} {R R':Nat->Nat->Prop} {μ:Nat->Nat} {a:Act} {w w':World}
theorem SW.mono{c:Code}{Q Q':Exit->St->Prop}(hq:∀e s,Q e s->Q' e s)(h:SW P G c st Q):SW P G c st Q':=λbase R μ a w hr=>wp_mono (h base R μ a w hr) λ_ _ _ ⟨st',R',μ',q,r,s⟩=>⟨st',R',μ',hq _ _ q,r,s⟩
theorem a1x(hr:Rel P G base R μ st a w){o:Oper}{all:Array Oper}{b:Bool}(h:dJ o all st.tmps=some b):Region.wanted o (yielded all a.tmps)=b:=by
 unfold dJ at h;unfold Region.wanted;split at h
 .rename_i hg;rw[hg];simpa using h
 .rename_i j want hg;rw[hg];simp only;unfold sH at h;unfold yielded;cases hd:(all[j]?).bind (·.dst)with
  |none=>rw[hd]at h;simp at h;subst h;rfl
  |some t=>
   rw[hd]at h;simp only[Option.bind_some]at h|-;by_cases ht:t<a.tmps.size
   .have h1:a.tmps[t]? =some a.tmps[t]:=f3f ht;have ht':t<st.tmps.length:=by rw[<-hr.size];exact ht
    have h2:st.tmps[t]? =some st.tmps[t]:=f2R ht';have hv:=hr.tmps t _ _ h1 h2;rw[h2]at h;simp only[Option.getD_some]at h;rw[h1];generalize a.tmps[t]=v at *;generalize st.tmps[t]=d at *;cases hv with
    |undef=>cases h
    |pC=>cases h
    |d v x hx=>
     cases hx with
     |bool b'=>simp at h;subst h;cases b'<;>cases want<;>rfl
     |_=>simp at h;subst h;rfl
    |_=>simp at h;subst h;rfl
   .have h1:a.tmps[t]? =none:=Array.getElem?_eq_none (Nat.le_of_not_lt ht);have h2:st.tmps[t]? =none:=List.getElem?_eq_none (by rw[<-hr.size];exact Nat.le_of_not_lt ht);rw[h2]at h;simp at h;subst h;rw[h1]
    rfl
theorem b4Q(hr:Rel P G base R μ st a w):∀ {l:List Operand} {ds:List D},vE (l.map (st.eval G))=some ds->l.length=ds.length/\∀(i:Nat) (d:D),ds[i]? =some d->V R w ((l.map a.eval).getD i undef) d
 |[],ds,h=>by simp[vE]at h;subst h;simp
 |x::l,ds,h=>by
  simp only[List.map_cons]at h;cases hx:st.eval G x with
  |d y=>
   rw[hx]at h;simp only[vE]at h;split at h<;>simp at h;rename_i ds' hds;subst h;obtain⟨h1,h2⟩:=b4Q hr hds;refine⟨by simp[h1],λi d hi=>?_⟩;cases i with
   |zero=>simp at hi;subst hi;exact hr.jI hx
   |succ i=>simp at hi;simpa using h2 i d hi
  |_=>rw[hx]at h;simp[vE]at h
theorem c3A{o:Oper}{f:FuncId}{ds:List D}{r:DV}{own:Option TypeId}(hc:gJ G o st=some (f,ds))(pR:Enters P f/\CS P G f ds r own)(hr:Rel P G base R μ st a w){K:Act->World->Prop}{Q:Exit->Act->World->Prop}(h:∀v R' w',Rel P G base R' μ (finish st o.dst r (a3z own)) (a.put o.dst v) w'->Step base R w R' w'->K (a.put o.dst v) w'):o.wp P a w K Q:=by
 unfold gJ at hc;split at hc
 .rename_i x args ts mV;split at hc
  .rename_i f' ds' hx hds;simp at hc;obtain⟨rfl,rfl⟩:=hc;obtain⟨⟨fn,hf1,hf2,hf3⟩,pR⟩:=pR;obtain⟨hl,hv⟩:=b4Q hr hds;have a3x:(execOp a.eval o).run P w=.ok (.enter f' (args.map a.eval)) w:=by
    have b6m: ¬fn.body=none:=λhe=>by simp[he]at hf2
    have b6n: ¬fn.name= "runtime.NumGoroutine" :=by simpa using hf3
    simp[execOp,mV,resolve,hr.b1b hx,Deferred.ofValue,invoke,callFunc,hf1,b6m,b6n]
   unfold Oper.wp;rw[a3x]
   show Calls P f' (args.map a.eval) w _
   refine(pR w R (args.map a.eval) (hr.tP.up hr.base) hr.pE (by simpa using hl) (λi d hi=>by have:=hv i d hi;simpa[f2P,List.getD]using this)).mono λe w' ⟨v,R',he,htv,hs,eK,ho⟩=>?_
   subst he;have hsb:Step base R w R' w':=⟨hs.below.mono hr.base,hs.mono,λb o q1 q2=>hr.base b (hs.new b o q1 q2),hs.cells⟩;have jU:=hr.step hsb hs.below.below.block hs.new eK;refine h v R' w' (jU.put (htv μ) ?_) hsb;cases own with
   |none=>trivial
   |some e=>
    have kF:=ho e rfl;refine⟨?_,λk o' hk hsp=>?_,?_⟩
    .rcases kF with q|⟨g,n,cap,cur,q1,q2,q3⟩
     .exact .inl q
     .exact .inr ⟨g,n,cap,cur,q1,hr.base _ q2,q3⟩
    .obtain⟨_,_,h3⟩:=hr.gM k o' hk;have h1:w.heap.size<=μ k:=kF.a0l hsp;have h2:=h3.lt;omega
    .obtain⟨vs,pF⟩:=hr.own;refine⟨vs,pF.step hr hs.below.below.block (λb o hb q=>by
      by_cases hR:R b o
      .exact hR
      .have:=hs.new b o q hR;omega),λv' yA=>⟨λg hg hg'=>?_,λg hg hg'=>?_⟩⟩
     .have h1:w.heap.size<=g:=kF.a0l hg;have h2:=pF.lt yA hg';omega
     .have h1:w.heap.size<=g:=kF.a0l hg';have h2:=pF.lt yA hg;omega
  .cases hc
 .cases hc
theorem CS.forget{f:FuncId}{ds:List D}{r:DV}{own:Option TypeId}(h:CS P G f ds r own):CS P G f ds r none:=λw R args hg hR hl hv=>(h w R args hg hR hl hv).mono λe w' ⟨v,R',h1,h2,h3,h4,_⟩=>⟨v,R',h1,h2,h3,h4,λ_ he=>by cases he⟩
theorem b1p{o:Oper}{f:FuncId}{f2L:List DV}{s':St}(hc:cR G o st=some (f,f2L))(pR:Enters P f/\mP P G f f2L (jL o) st o.dst s')(hr:Rel P G base R μ st a w){K:Act->World->Prop}{Q:Exit->Act->World->Prop}(h:∀v R' μ' w',Rel P G base R' μ' s' (a.put o.dst v) w'->Step base R w R' w'->K (a.put o.dst v) w'):o.wp P a w K Q:=by
 obtain⟨⟨fn,hf1,hf2,hf3⟩,pR⟩:=pR;have b6m: ¬fn.body=none:=λhe=>by simp[he]at hf2
 have b6n: ¬fn.name= "runtime.NumGoroutine" :=by simpa using hf3
 have main:∀args:Array Value,(execOp a.eval o).run P w=.ok (.enter f args) w->args.size=f2L.length->(∀(i:Nat) (d:DV),f2L[i]? =some d->TV R μ w (args.getD i undef) d)->
   (∀(i:Nat) (l:Loc),(jL o)[i]? =some (some l)->∀u,bZ a w μ l=some u->u=args.getD i undef)->o.wp P a w K Q:=λargs a3x hl hv a6a=>by
  unfold Oper.wp;rw[a3x]
  show Calls P f args w _
  refine(pR base R μ a w args hr hl hv a6a).mono λe w' ⟨v,R',μ',he,jU,hs⟩=>?_;subst he;exact h v R' μ' w' jU hs
 have each:∀(l:List Operand) (i:Nat) (d:DV),(l.map (st.eval G))[i]? =some d->TV R μ w ((l.map a.eval).getD i undef) d:=λl i d hi=>by
  rw[f2X]at hi;obtain⟨x,hx,rfl⟩:=f2M.1 hi;have:(l.map a.eval).getD i undef=a.eval x:=by simp[List.getD,hx]
  rw[this];exact hr.eval x
 have dF:∀(args:Array Operand) (vs:Array Value),jL o=args.toList.map a3m->∀(i:Nat) (l:Loc),(jL o)[i]? =some (some l)->∀u,bZ a w μ l=some u->u=(args.map a.eval++vs).getD i undef:=λargs vs tQ i l hi u hu=>by
  rw[tQ,f2X]at hi;obtain⟨x,hx,hxl⟩:=f2M.1 hi;cases x with
  |tmp t=>
   simp only[a3m,f2T]at hxl;subst hxl;simp only[bZ]at hu;have aI:i<args.size:=by have:=(f2O.1 hx).1;simpa using this
   have he:args[i]? =some (.tmp t):=by simpa using hx
   rw[f2P,Array.getElem?_append_left (by simpa using aI),Array.getElem?_map,he];simp[Act.eval,hu]
  |_=>cases hxl
 unfold cR at hc;split at hc
 .rename_i x args ts mV;have tQ:jL o=args.toList.map a3m:=by simp[jL,mV]
  split at hc
  .rename_i f' hx;simp at hc;obtain⟨rfl,rfl⟩:=hc;refine main (args.map a.eval) ?_ (by simp) (λi d hi=>?_) (by simpa using dF args #[] tQ)
   .simp[execOp,mV,resolve,hr.b1b hx,Deferred.ofValue,invoke,callFunc,hf1,b6m,b6n]
   .have:=each args.toList i d hi;simpa[f2P,List.getD]using this
  .rename_i f' cs hx;simp at hc;obtain⟨rfl,rfl⟩:=hc;obtain⟨vs,he,pF,hvc⟩:=(hr.mD hx).a6Y;refine main (args.map a.eval++vs) ?_ (by simp[pF]) (λi d hi=>?_) (dF args vs tQ)
   .simp[execOp,mV,resolve,he,Deferred.ofValue,invoke,callFunc,hf1,b6m,b6n]
   .by_cases aI:i<args.size
    .rw[f2Y (by simpa using aI)]at hi;have:=each args.toList i d hi;rw[f2P,Array.getElem?_append_left (by simpa using aI)];simpa[f2P,List.getD]using this
    .rw[f2V (by simp;omega)]at hi;simp only[List.length_map,Array.length_toList]at hi;have:=hvc _ d hi;rw[f2P,Array.getElem?_append_right (by simp;omega)];simpa[f2P]using this
  .cases hc
 .cases hc
theorem c1J{P:Program}{G:GT}{st:St}{q:Bool}{all:Array Oper}{o:Oper}{out:Out}(_:jT P G o st=some out):a7d q all o out.v out.act=.no\/a7d q all o out.v out.act=out.act:=by
 unfold a7d a5d;split
 .split
  .exact .inr rfl
  .exact .inl rfl
 .exact .inr rfl
theorem b8E:∀ {l:List DV} {ds:List D},vE l=some ds->l=ds.map .d
 |[],ds,h=>by simp[vE]at h;subst h;rfl
 | .d x::l,ds,h=>by
  simp only[vE]at h;split at h
  .rename_i ds' hd;simp at h;subst h;rw[b8E hd];rfl
  .cases h
 | .undef::_,_,h=>by simp[vE]at h
 | .ptr _ _::_,_,h=>by simp[vE]at h
 | .ep _::_,_,h=>by simp[vE]at h
 | .mp _::_,_,h=>by simp[vE]at h
 | .it _::_,_,h=>by simp[vE]at h
 | .cJ _::_,_,h=>by simp[vE]at h
 | .fn _::_,_,h=>by simp[vE]at h
 | .pC::_,_,h=>by simp[vE]at h
 | .wL _::_,_,h=>by simp[vE]at h
 | .clo _ _::_,_,h=>by simp[vE]at h
 | .ag _::_,_,h=>by simp[vE]at h
theorem c1K{o:Oper}{f:FuncId}{ds:List D}(h:gJ G o st=some (f,ds)):cR G o st=some (f,ds.map .d):=by
 unfold gJ at h;unfold cR;split at h
 .rename_i x args ts mV;split at h
  .rename_i f' ds' hx hds;simp at h;obtain⟨rfl,rfl⟩:=h;simp only[mV,hx];rw[b8E hds]
  .cases h
 .cases h
theorem qO{q:Bool}{all:Array Oper}{o:Oper}{K:St->Prop}{Q:Exit->Act->World->Prop}{KK:Act->World->Prop}(h:mE P G q all o K st)(hr:Rel P G base R μ st a w)(hk:∀s v w' R' μ',K s->Rel P G base R' μ' s (a.put o.dst v) w'->Step base R w R' w'->KK (a.put o.dst v) w'):
  if Region.wanted o (yielded all a.tmps) then o.wp P a w KK Q\/(o.asks P a w/\LetsOut Q) else KK (a.put o.dst Go.undef) w:=by
 unfold mE at h;split at h
 .rename_i hw;rw[a1x hr hw,if_pos rfl];refine .inl ?_;split at h
  .rename_i f ds hc;rcases h with⟨r,own,pR,_,h⟩|⟨_,s',pR,h⟩
   .generalize (q&& !sA all o)=qn at h;cases qn with
    |true=>exact c3A hc ⟨pR.1,pR.2.forget⟩ hr λv R1 w1 jU hs=>hk _ v w1 R1 μ h jU hs
    |false=>exact c3A hc pR hr λv R1 w1 jU hs=>hk _ v w1 R1 μ h jU hs
   .exact b1p (c1K hc) pR hr λv R1 μ1 w1 jU hs=>hk _ v w1 R1 μ1 h jU hs
  .split at h
   .rename_i f f2L hch;unfold a0p at h;split at h
    .obtain⟨d,ks,⟨h1,h2,h3,_⟩,h⟩:=h;exact b1p hch ⟨h1,h2 st (λ_ _=>rfl) h3 _ _⟩ hr λv R1 μ1 w1 jU hs=>hk _ v w1 R1 μ1 h jU hs
    .obtain⟨s',pR,h⟩:=h;exact b1p hch pR hr λv R1 μ1 w1 jU hs=>hk _ v w1 R1 μ1 h jU hs
   split at h
   .rename_i out hv;obtain⟨v,w1,R1,μ1,cD,jU,htv,xD,hs⟩:=d8d hv base R μ a w hr;have e2B:a3n P base R1 μ1 out.st a w1 v (a7d q all o out.v out.act):=by
     rcases c1J (q:=q) (all:=all) hv with he|he
     .rw[he];trivial
     .rw[he];exact xD
    have hgo:=hk _ v w1 R1 μ1 h (jU.put (dst:=o.dst) htv e2B) hs;unfold Oper.wp;rcases cD with cD|⟨cD,rfl⟩
    .rw[cD];exact hgo
    .rw[cD];exact hgo
   .cases h
 .rename_i hw;rw[a1x hr hw];simp only[Bool.false_eq_true,if_false];exact hk _ _ w R μ h (hr.put (dst:=o.dst) (v:=Go.undef) (.cJ #[] [] rfl (by simp)) trivial) (.refl _ _ _)
 .cases h
theorem b6o{q:Bool}(all:Array Oper)(Q:Exit->Act->World->Prop):∀(l:List Oper) (st:St) (K:St->Prop),sE P G q all l st K->∀(base:cN) (R:Nat->Nat->Prop) (μ:Nat->Nat) (a:Act) (w:World),Rel P G base R μ st a w->
  (∀s a' w' R' μ',K s->Rel P G base R' μ' s a' w'->Step base R w R' w'->Q .normal a' w')->wpList P all Q l a w
 |[],st,K,h,base,R,μ,a,w,hr,hk=>hk st a w R μ h hr (.refl _ _ _)
 |o::rest,st,K,h,base,R,μ,a,w,hr,hk=>by unfold wpList;exact qO h hr λs v w' R' μ' h' eK oY=>b6o all Q rest s K h' base R' μ' _ w' eK λs a' w2 R2 μ2 q1 q2 q3=>hk s a' w2 R2 μ2 q1 q2 (oY.trans q3)
theorem eN{q:Bool}{all:Array Oper}{o:Oper}{K K':St->Prop}(hk:∀s,K s->K' s)(h:mE P G q all o K st):mE P G q all o K' st:=by
 unfold mE at *;split
 .rename_i hw;rw[hw]at h;simp only at h|-;split
  .rename_i f ds hc;rw[hc]at h;rcases h with⟨r,own,h1,h3,h2⟩|⟨h0,s',h1,h2⟩
   .exact .inl ⟨r,own,h1,h3,hk _ h2⟩
   .exact .inr ⟨h0,s',h1,hk _ h2⟩
  .rename_i hc;rw[hc]at h;simp only at h;split
   .rename_i f f2L hch;rw[hch]at h;simp only[a0p]at h|-;split
    .rename_i hro;rw[if_pos hro]at h;obtain⟨d,ks,h1,h2⟩:=h;exact⟨d,ks,h1,hk _ h2⟩
    .rename_i hro;rw[if_neg hro]at h;obtain⟨s',h1,h2⟩:=h;exact⟨s',h1,hk _ h2⟩
   rename_i hch;rw[hch]at h;simp only at h;split
   .rename_i out ho;rw[ho]at h;exact hk _ h
   .rename_i ho;rw[ho]at h;exact h
 .rename_i hw;rw[hw]at h;exact hk _ h
 .rename_i hw;rw[hw]at h;exact h
def QY(P:Program)(G:GT)(all:Array Oper)(o:Oper)(d:DV)(act:OA)(st:St):Prop:=
 (dJ o all st.tmps=some true/\((∃f ds own,gJ G o st=some (f,ds)/\Enters P f/\CS P G f ds d own/\qM d=true/\act=a3z own)\/(gJ G o st=none/\cR G o st=none/\jT P G o st=some ⟨d,act,st⟩)\/
  (gJ G o st=none/\∃f f2L ks,cR G o st=some (f,f2L)/\Enters P f/\RO P G f f2L ks st.H d/\jW ks st.own=true/\(ks.all λk=>(getKey k st.H).isSome)=true/\qM d=true/\act=.no)))\/(dJ o all st.tmps=some false/\d=.cJ []/\act=.no)
theorem b4R{o:Oper}(hq:cO o.op=true){st':St}(he:∀x∈o.op.operands,st'.eval G x=st.eval G x)(hH:∀x∈o.op.operands,∀k,mentions k (st.eval G x)=true->getKey k st'.H=getKey k st.H):jT P G o st'=(jT P G o st).map λout=>⟨out.v,out.act,st'⟩:=by
 obtain⟨dst,op,ty,pos,after,guard⟩:=o;have parts:∀ps:List (Nat×Operand),(∀x∈ps.map (·.2),st'.eval G x=st.eval G x)->a0U G st' ps=a0U G st ps:=by
  intro ps
  induction ps with
  |nil=>intro _;rfl
  |cons p ps ih=>intro hp;obtain⟨i,x⟩:=p;unfold a0U;rw[hp x (by simp),ih λy hy=>hp y (by simp at hy|-;exact .inr hy)]
 have d8f:∀ps:List (Nat×Operand),(∀x∈ps.map (·.2),st'.eval G x=st.eval G x)->xB G st' ps=xB G st ps:=by
  intro ps
  induction ps with
  |nil=>intro _;rfl
  |cons p ps ih=>intro hp;obtain⟨i,x⟩:=p;unfold xB;rw[hp x (by simp),ih λy hy=>hp y (by simp at hy|-;exact .inr hy)]
 have bV:∀(x:Option Operand) (d n:Nat),(∀y,x=some y->st'.eval G y=st.eval G y)->eP G st' x d n=eP G st x d n:=λx d n hx=>by
  cases x with
  |none=>rfl
  |some y=>simp only[eP,hx y rfl]
 cases op<;>simp only[cO]at hq<;>try cases hq
 all_goals simp only[Op.operands]at he hH
 case move x=>simp[jT,a1s,he]
 case assign x=>simp[jT,a1s,he]
 case pick c a b=>simp only[jT,b0W,he c (by simp),he a (by simp),he b (by simp)];split<;>rfl
 case build t ps=>
  simp only[jT,a5Q,parts ps.toList λx hx=>he x (by simpa using hx)];split
  .split
   .simp[Option.map_map,Function.comp_def]
   .simp only[a4A,d8f ps.toList λx hx=>he x (by simpa using hx)];split
    .simp[Option.map_map,Function.comp_def]
    .rfl
  .rfl
 case buildSlice t n ps=>
  simp only[jT,qW,parts ps.toList λx hx=>he x (by simpa using hx)];split
  .split<;>rfl
  .rfl
 case load t x=>
  simp only[jT,a9p,he x (by simp)];split
  .rename_i k off hx;rw[hH x (by simp) k (by rw[hx];simp[mentions])];split
   .simp[Option.map_map,Function.comp_def]
   .rfl
  .simp[Option.map_map,Function.comp_def]
  .rfl
 case nilCheck x=>simp only[jT,tG,he x (by simp)];split<;>rfl
 case binOp op t x y u=>
  simp only[jT,b0X,yX,c1s,he x (by simp),he y (by simp)];split
  .split<;>rfl
  .split
   .simp[Option.map_map,Function.comp_def]
   .rfl
 case unOp op t x=>
  simp only[jT,vUn,he x (by simp)];split
  .simp[Option.map_map,Function.comp_def]
  .rfl
 case convert src dst x=>
  simp only[jT,b0Y,he x (by simp)];split
  .simp[Option.map_map,Function.comp_def]
  .rfl
 case lookup t m k ok=>
  simp only[jT,a4B,he m (by simp),he k (by simp)];split
  .rename_i hm _;rw[hH m (by simp) _ (by rw[hm];simp[mentions])];split
   .simp[Option.map_map,Function.comp_def]
   .rfl
  .rfl
 case extract x i=>
  simp only[jT,yZ,he x (by simp)];split
  .simp[Option.map_map,Function.comp_def]
  .rfl
 case field t x i=>
  simp only[jT,a5R,he x (by simp)];split
  .simp[Option.map_map,Function.comp_def]
  .rfl
 case index t x i=>
  simp only[jT,a5S,he x (by simp),he i (by simp)];split
  .simp[Option.map_bind,Option.map_map,Function.comp_def]
  .simp[Option.map_bind,Option.map_map,Function.comp_def]
  .rfl
 case indexAddr t x i=>
  simp only[jT,qX,he x (by simp),he i (by simp)];split
  .rw[Option.map_bind];congr 1;funext j;simp only[Function.comp];rw[Option.map_bind];congr 1;funext cs;simp only[Function.comp];split<;>rfl
  .split
   .rfl
   .simp[Option.map_map,Function.comp_def]
  .split
   .rfl
   .simp[Option.map_map,Function.comp_def]
  .rfl
 case fieldAddr t x i=>
  simp only[jT,qY,he x (by simp)];split
  .split
   .rfl
   .split<;>rfl
  .rfl
 case slice t x lo hi mx=>
  have tQ:∀y,lo=some y->st'.eval G y=st.eval G y:=λy hy=>he y (by simp[hy]);have hhi:∀y,hi=some y->st'.eval G y=st.eval G y:=λy hy=>he y (by simp[hy]);have hmx:∀y,mx=some y->st'.eval G y=st.eval G y:=λy hy=>he y (by simp[hy]);simp only[jT,a5T,he x (by simp),bV lo _ _ tQ,bV hi _ _ hhi];split
  .simp[Option.map_bind,Option.map_map,Function.comp_def]
  .split
   .simp[Option.map_bind,Option.map_map,Function.comp_def]
   .rfl
  .split
   .simp[Option.map_bind,Option.map_map,Function.comp_def]
   .rfl
  .rw[bV (some _) _ _ λy hy=>hmx y hy];split<;>rfl
  .rw[bV (some _) _ _ λy hy=>hmx y hy];split<;>rfl
  .rfl
 case call c=>
  obtain⟨callee,args,ts⟩:=c;cases callee with
  |value f=>simp[jT]
  |invoke r m=>simp at hq
  |builtin b=>
   have mem:∀ {x:Operand} {l:List Operand},args.toList=l->x∈l->st'.eval G x=st.eval G x:=λhl hx=>he _ (by simp only[Op.operands,Call.operands];rw[<-Array.mem_toList_iff];simp[hl,hx]);cases b<;>simp only[]at hq<;>try cases hq
   .simp only[jT,qZ];split
    .rename_i x t _ heq _;have hx:st'.eval G x=st.eval G x:=mem heq (by simp);have hxm:x∈args:=by rw[<-Array.mem_toList_iff];simp[heq]
     simp only[c4M,hx];split
     .rfl
     .rfl
     .rfl
     .rename_i wE;rw[hH x (by simpa[Call.operands]using hxm) _ (by rw[wE];simp[mentions])];split<;>rfl
     .rfl
    .rename_i h1 _ _;cases h1
    .rename_i h1 _ _;cases h1
    .rename_i h1 _;cases h1
    .rename_i h1 _;cases h1
    .rfl
   .simp only[jT,qZ];split
    .rename_i h1 _ _;cases h1
    .rename_i h1 _ _;cases h1
    .rename_i h1 _ _;cases h1
    .rename_i x y _ heq;have hx:st'.eval G x=st.eval G x:=mem heq (by simp);have hy:st'.eval G y=st.eval G y:=mem heq (by simp);simp only[c4N,hx,hy];split<;>rfl
    .rename_i h1 _;cases h1
    .rfl
   .simp only[jT,qZ];split
    .rename_i h1 _ _;cases h1
    .rename_i h1 _ _;cases h1
    .rename_i h1 _ _;cases h1
    .rename_i h1 _;cases h1
    .rename_i x y _ heq;have hx:st'.eval G x=st.eval G x:=mem heq (by simp);have hy:st'.eval G y=st.eval G y:=mem heq (by simp);simp only[c4O,hx,hy];split<;>rfl
    .rfl
theorem b8F{o:Oper}(hq:cO o.op=true)(h:jT P G o st=some out):out.st=st:=by have:=b4R (P:=P) (G:=G) (st:=st) (st':=st) hq (λ_ _=>rfl) (λ_ _ _ _=>rfl);rw[h]at this;simp at this;have h2:=congrArg Out.st this;simpa using h2
theorem a3A(st:St)(dst:Option Tmp)(d:DV)(act:OA):(finish st dst d act).H=st.H:=by cases dst<;>rfl
theorem b8G{dst:Option Tmp}{d:DV}{act:OA}{x:Operand}(h:∀t,dst=some t->x≠ .tmp t):(finish st dst d act).eval G x=st.eval G x:=by
 cases dst with
 |none=>rfl
 |some t=>
  cases x with
  |tmp j=>have dX:t≠j:=λe=>h t rfl (e▸rfl);simp[finish,St.eval,List.getElem?_set_ne dX]
  |_=>rfl
theorem a6f{all:Array Oper}{o:Oper}{dst:Option Tmp}{d:DV}{act:OA}(h:∀t,dst=some t->t ∉ o.looksAt all):∀x∈o.op.operands,(finish st dst d act).eval G x=st.eval G x:=λx hx=>b8G λt ht hxt=>h t ht (by subst hxt;exact List.mem_append_left _ (List.mem_filterMap.2 ⟨.tmp t,by simpa using hx,rfl⟩))
theorem aY{all:Array Oper}{o:Oper}{dst:Option Tmp}{d:DV}{act:OA}(h:∀t,dst=some t->t ∉ o.looksAt all):dJ o all (finish st dst d act).tmps=dJ o all st.tmps:=by
 cases dst with
 |none=>rfl
 |some t=>
  unfold dJ;cases hg:o.guard with
  |none=>rfl
  |some gw=>
   obtain⟨g,want⟩:=gw;have hy:sH all (finish st (some t) d act).tmps g=sH all st.tmps g:=by
    unfold sH;cases ht:(all[g]?).bind (·.dst)with
    |none=>rfl
    |some j=>have dX:t≠j:=λe=>h t rfl (by subst e;simp[Oper.looksAt,hg,ht]);simp[finish,List.getElem?_set_ne dX]
   simp only[hy]
theorem b6p{o:Oper}{st':St}(h:∀x∈o.op.operands,st'.eval G x=st.eval G x):gJ G o st'=gJ G o st:=by
 unfold gJ;split
 .rename_i x args ts mV;rw[mV]at h;have hx:=h x (by simp[Op.operands,Call.operands]);have ha:args.toList.map (st'.eval G)=args.toList.map (st.eval G):=List.map_congr_left λy hy=>h y (by simp[Op.operands,Call.operands];exact .inr (by simpa using hy));rw[hx,ha]
 .rfl
theorem b3Q{o:Oper}{st':St}(h:∀x∈o.op.operands,st'.eval G x=st.eval G x):cR G o st'=cR G o st:=by
 unfold cR;split
 .rename_i x args ts mV;rw[mV]at h;have hx:=h x (by simp[Op.operands,Call.operands]);have ha:args.toList.map (st'.eval G)=args.toList.map (st.eval G):=List.map_congr_left λy hy=>h y (by simp[Op.operands,Call.operands];exact .inr (by simpa using hy));rw[hx,ha]
 .rfl
theorem a6g(ks:List Nat)(t:Tmp)(own:List (TypeId×List Loc)):jW ks (cE (.t t) own)=jW ks own:=by
 unfold jW cE;rw[List.all_map];congr 1;funext c;simp only[Function.comp]
 induction c.2 with
 |nil=>rfl
 |cons l r ih=>
  by_cases hl:l=.t t
  .subst hl;rw[List.filter_cons_of_neg (by simp),ih]
   rfl
  .rw[List.filter_cons_of_pos (by simp[hl]),List.all_cons,List.all_cons,ih]
theorem b8H(ks:List Nat)(s:Loc)(t:Tmp)(own:List (TypeId×List Loc)):jW ks (addAlias s (.t t) own)=jW ks own:=by
 unfold jW addAlias;rw[List.all_map];congr 1;funext c;simp only[Function.comp];split
 .rw[List.all_cons];rfl
 .rfl
theorem a7e(ks:List Nat)(dst:Option Tmp)(d:DV)(act:OA):jW ks (VM.finish st dst d act).own=jW ks st.own:=by
 cases dst with
 |none=>rfl
 |some t=>
  simp only[VM.finish];cases act with
  |no=>exact a6g ks t _
  |al l=>
   simp only[dO];split
   .rfl
   .rw[b8H,a6g]
  |fresh e=>
   simp only[dO];have:=a6g ks t st.own;unfold jW at this|-;rw[List.all_cons,this]
   rfl
theorem c7I{o:Oper}{x:FuncId×List DV}(h:cR G o st=some x):a2c o=true:=by
 unfold cR at h;unfold a2c;split at h
 .rename_i mV;rw[mV]
 .cases h
theorem QY.to{all:Array Oper}{o:Oper}{d:DV}{ac:OA}{st':St}(h:QY P G all o d ac st)(hq:cO o.op=true)(hw:dJ o all st'.tmps=dJ o all st.tmps)(he:∀x∈o.op.operands,st'.eval G x=st.eval G x)(hH:∀x∈o.op.operands,∀k,mentions k (st.eval G x)=true->getKey k st'.H=getKey k st.H)(hk:a2c o=true->∀k o,getKey k st.H=some o->getKey k st'.H=some o)(hn:a2c o=true->∀ks,(ks.all λk=>(getKey k st.H).isSome)=true->jW ks st.own=true->jW ks st'.own=true):QY P G all o d ac st':=by
 unfold QY at h|-;rw[hw,b6p he,b3Q he,b4R hq he hH];rcases h with⟨h0,h|⟨h1,h2,h3⟩|⟨h1,f,f2L,ks,h2,h3,h4,h5,h6,h7,h8⟩⟩|h
 .exact .inl ⟨h0,.inl h⟩
 .exact .inl ⟨h0,.inr (.inl ⟨h1,h2,by rw[h3];rfl⟩)⟩
 .have hv:=c7I h2;have hks:∀k∈ks,getKey k st'.H=getKey k st.H:=λk sW=>by obtain⟨ob,hob⟩:=Option.isSome_iff_exists.1 (f2Q.1 h6 k sW);rw[hob];exact hk hv k ob hob
  refine .inl ⟨h0,.inr (.inr ⟨h1,f,f2L,ks,h2,h3,λs hs sI=>h4 s (λk sW=>(hs k sW).trans (hks k sW)) sI,hn hv ks h6 h5,f2Q.2 λk sW=>?_,h7,h8⟩)⟩;rw[hks k sW];exact f2Q.1 h6 k sW
 .exact .inr h
theorem QY.finish{all:Array Oper}{o:Oper}{d x:DV}{ac:OA}{dst:Option Tmp}{act:OA}(hq:cO o.op=true)(h:∀t,dst=some t->t ∉ o.looksAt all):QY P G all o d ac (VM.finish st dst x act)↔QY P G all o d ac st:=by
 have he:=a6f (G:=G) (st:=st) (d:=x) (act:=act) h;refine⟨λhy=>QY.to hy hq (aY h).symm (λy hy=>(he y hy).symm) (λ_ _ _ _=>by rw[a3A]) (λ_ k ob hk=>by rw[a3A]at hk;exact hk) (λ_ ks _ hn=>by rw[a7e]at hn;exact hn),
  λhy=>QY.to hy hq (aY h) he (λ_ _ _ _=>by rw[a3A]) (λ_ k ob hk=>by rw[a3A];exact hk) (λ_ ks _ hn=>by rw[a7e];exact hn)⟩
theorem c1L{all:Array Oper}{o:Oper}{K:St->Prop}(hq:cO o.op=true)(hal:kI all o=false):mE P G true all o K st↔∃d act,QY P G all o d act st/\K (finish st o.dst d (a5d all o act)):=by
 have xD:∀d act,a7d true all o d act=a5d all o act:=λd act=>by simp[a7d,hq]
 have sI:a5d all o .no=.no:=by unfold a5d;split<;>rfl
 have hqn:∀a,a5d all o a=if true&& !sA all o then .no else a:=λa=>by unfold a5d;cases sA all o<;>rfl
 unfold mE QY;constructor
 .intro h;split at h
  .rename_i hw;rw[hw];split at h
   .rename_i f ds hc;rcases h with⟨r,own,⟨h1,h2⟩,h4,h3⟩|⟨h0,_⟩
    .exact⟨r,a3z own,.inl ⟨rfl,.inl ⟨f,ds,own,hc,h1,h2,h4 rfl,rfl⟩⟩,by rw[hqn];exact h3⟩
    .simp[qN,hal]at h0
   .rename_i hc;split at h
    .rename_i f f2L hch;simp only[a0p,qN,hal,Bool.not_false,Bool.true_or,Bool.and_self,if_true]at h;obtain⟨d,ks,⟨h1,h2,h3,h5,h6⟩,h4⟩:=h;exact⟨d,.no,.inl ⟨rfl,.inr (.inr ⟨hc,f,f2L,ks,hch,h1,h2,h3,h5,h6,rfl⟩)⟩,by rw[sI];exact h4⟩
    .rename_i hch;split at h
     .rename_i out ho;rw[xD]at h;have hs:=b8F hq ho;obtain⟨v,act,s2⟩:=out;simp only at hs;subst hs;exact⟨v,act,.inl ⟨rfl,.inr (.inl ⟨hc,hch,ho⟩)⟩,h⟩
     .cases h
  .rename_i hw;exact⟨.cJ [],.no,.inr ⟨hw,rfl,rfl⟩,by rw[sI];exact h⟩
  .cases h
 .rintro⟨d,act,(⟨hw,⟨f,ds,own,hc,h1,h2,h4,rfl⟩|⟨hc,hch,ho⟩|⟨hc,f,f2L,ks,hch,h1,h2,h3,h5,h6,rfl⟩⟩|⟨hw,rfl,rfl⟩),hk⟩
  .rw[hqn]at hk;rw[hw];simp only;rw[hc];exact .inl ⟨d,own,⟨h1,h2⟩,λ_=>h4,hk⟩
  .rw[hw];simp only;rw[hc];simp only;rw[hch];simp only;rw[ho];simp only;rw[xD];exact hk
  .rw[sI]at hk;rw[hw];simp only;rw[hc];simp only;rw[hch];simp only[a0p,qN,hal,Bool.not_false,Bool.true_or,Bool.and_self,if_true];exact⟨d,ks,⟨h1,h2,h3,h5,h6⟩,hk⟩
  .rw[sI]at hk;rw[hw];exact hk
def b6q(all:Array Oper)(o:Oper)(a:OA):Prop:=a=.no\/(sA all o=true/\∃e,a=.fresh e)\/∃l i,o.dst=some i/\sA all o=true/\l≠ .t i/\(∀u,u ∉ o.looksAt all->l≠ .t u)/\a=.al l
theorem a0q(v:DV)(a:OA):qV v a=.no\/qV v a=a:=by
 unfold qV;split
 .exact .inr rfl
 .exact .inl rfl
theorem QY.act{all:Array Oper}{o:Oper}{d:DV}{act:OA}(h:QY P G all o d act st):b6q all o (a5d all o act):=by
 unfold a5d;split
 .rename_i hn;rcases h with⟨hw,⟨f,ds,own,hc,h1,h2,_,rfl⟩|⟨hc,hch,ho⟩|⟨hc,f,f2L,ks,hch,h1,h2,h3,_,_,rfl⟩⟩|⟨hw,rfl,rfl⟩
  .cases own with
   |none=>exact .inl rfl
   |some e=>exact .inr (.inl ⟨hn,e,rfl⟩)
  .obtain⟨dst,op,ty,pos,after,guard⟩:=o;have hn':=hn;unfold sA at hn;split at hn
   .rename_i j i hg mV hd;simp only at hg mV hd;subst hg mV hd;simp only[f2N,bne_iff_ne]at hn;have:act=qV (st.eval G (.tmp j)) (.al (.t j)):=by simp only[jT,a1s,f2T,Out.mk.injEq]at ho;exact ho.2.1.symm
    rcases a0q (st.eval G (.tmp j)) (.al (.t j))with h1|h1
    .exact .inl (this.trans h1)
    .exact .inr (.inr ⟨.t j,i,rfl,hn',λe=>hn.1 (by cases e;rfl),λu hu e=>hu (by cases e;simp[Oper.looksAt,Op.operands]),this.trans h1⟩)
   .rename_i j i hg mV hd;simp only at hg mV hd;subst hg mV hd;simp only[f2N,bne_iff_ne]at hn;have:act=qV (st.eval G (.tmp j)) (.al (.t j)):=by simp only[jT,a1s,f2T,Out.mk.injEq]at ho;exact ho.2.1.symm
    rcases a0q (st.eval G (.tmp j)) (.al (.t j))with h1|h1
    .exact .inl (this.trans h1)
    .exact .inr (.inr ⟨.t j,i,rfl,hn',λe=>hn.1 (by cases e;rfl),λu hu e=>hu (by cases e;simp[Oper.looksAt,Op.operands]),this.trans h1⟩)
   .rename_i ty' j i hg mV hd;simp only at hg mV hd;subst hg mV hd;simp only[jT,a9p]at ho;split at ho
    .rename_i k off _;split at ho
     .rename_i cs hk;obtain⟨y,_,he⟩:=f2M.1 ho;simp only[Out.mk.injEq]at he;have:act=qV y (.al (.c k off)):=he.2.1.symm;rcases a0q y (.al (.c k off))with h1|h1
      .exact .inl (this.trans h1)
      .exact .inr (.inr ⟨.c k off,i,rfl,hn',(by simp),(λu _=>by simp),this.trans h1⟩)
     .cases ho
    .obtain⟨y,_,he⟩:=f2M.1 ho;simp only[Out.mk.injEq]at he;exact .inl he.2.1.symm
    .cases ho
   .rename_i cl x i hg mV hd;simp only at hg mV hd;subst hg mV hd;simp[jT]at ho
   .rename_i t n ps i hg mV hd;simp only at hg mV hd;subst hg mV hd;simp only[jT,qW]at ho;split at ho
    .split at ho
     .simp only[f2T,Out.mk.injEq]at ho;exact .inr (.inl ⟨hn',_,ho.2.1.symm⟩)
     .cases ho
    .cases ho
   .cases hn
  .exact .inl rfl
  .exact .inl rfl
 .exact .inl rfl
theorem pJ(x y:Loc)(own:List (TypeId×List Loc)):cE x (cE y own)=cE y (cE x own):=by simp only[cE,List.map_map];refine List.map_congr_left λc _=>?_;simp only[Function.comp,List.filter_filter];congr 1;refine List.filter_congr λl _=>?_;rw[Bool.and_comm]
theorem a5r{x l:Loc}(h:l≠x)(c:List Loc):(c.filter λy=>decide (y≠x)).contains l=c.contains l:=by rw[Bool.eq_iff_iff];simp only[List.contains_iff_mem,List.mem_filter,decide_eq_true_eq];exact⟨λh=>h.1,λh'=>⟨h',h⟩⟩
theorem b1q{s t x:Loc}(h1:s≠x)(h2:t≠x)(own:List (TypeId×List Loc)):addAlias s t (cE x own)=cE x (addAlias s t own):=by
 simp only[addAlias,cE,List.map_map];refine List.map_congr_left λc _=>?_;simp only[Function.comp,a5r h1];split
 .simp[h2]
 .rfl
theorem b8I{l:Loc}{t u:Tmp}(h1:t≠u)(h2:l≠ .t u)(h3:l≠ .t t)(own:List (TypeId×List Loc)):dO (.t u) .no (dO (.t t) (.al l) own)=dO (.t t) (.al l) (dO (.t u) .no own):=by have ht:(.t t:Loc)≠ .t u:=λe=>h1 (by cases e;rfl);simp only[dO];rw[if_neg h3,if_neg h3, <- b1q h2 ht,pJ]
theorem a6h{e:TypeId}{t u:Tmp}(h1:t≠u)(own:List (TypeId×List Loc)):dO (.t u) .no (dO (.t t) (.fresh e) own)=dO (.t t) (.fresh e) (dO (.t u) .no own):=by have ht:(.t t:Loc)≠ .t u:=λe=>h1 (by cases e;rfl);simp only[dO];rw[pJ (.t t)];simp[cE,ht]
theorem wR{all:Array Oper}{x y:Oper}{d e:DV}{ax ay:OA}(h:∀t,x.dst=some t->y.dst≠some t)(hx:∀t,x.dst=some t->t ∉ y.looksAt all)(hy:∀t,y.dst=some t->t ∉ x.looksAt all)(hn:(sA all x&&sA all y)=false)(sx:b6q all x ax)(sy:b6q all y ay):
  finish (finish st x.dst d ax) y.dst e ay=finish (finish st y.dst e ay) x.dst d ax:=by
 cases hxd:x.dst with
 |none=>cases y.dst<;>rfl
 |some t=>
  cases hyd:y.dst with
  |none=>rfl
  |some u=>
   have dX:t≠u:=λhe=>h t hxd (he▸hyd);simp only[finish];rw[List.set_comm _ _ dX];congr 1;rcases sx with rfl|⟨q2,e,rfl⟩|⟨l,i,q1,q2,q3,q4,rfl⟩
   .rcases sy with rfl|⟨q2,e,rfl⟩|⟨l,i,q1,q2,q3,q4,rfl⟩
    .exact pJ _ _ _
    .exact(a6h (Ne.symm dX) _).symm
    .rw[hyd]at q1;cases q1;exact(b8I (Ne.symm dX) (q4 t (hx t hxd)) q3 _).symm
   .rcases sy with rfl|⟨p2,e',rfl⟩|⟨l',i',p1,p2,p3,p4,rfl⟩
    .exact a6h dX _
    .rw[q2,p2]at hn;cases hn
    .rw[q2,p2]at hn;cases hn
   .rw[hxd]at q1;cases q1;rcases sy with rfl|⟨p2,e',rfl⟩|⟨l',i',p1,p2,p3,p4,rfl⟩
    .exact b8I dX (q4 u (hy u hyd)) q3 _
    .rw[q2,p2]at hn;cases hn
    .rw[q2,p2]at hn;cases hn
def b1r(P:Program)(G:GT)(ops:Array Oper)(Q:St->Prop):Nat->Array Bool->St->Prop
 |0,listed,st=>Region.ready .any ops listed=[]/\Q st
 |fuel+1,listed,st=>(Region.ready .any ops listed=[]->Q st)/\∀i∈Region.ready .any ops listed,match ops[i]? with
  |none=>b1r P G ops Q fuel (listed.setIfInBounds i true) st
  |some o=>mE P G true ops o (b1r P G ops Q fuel (listed.setIfInBounds i true)) st
theorem b0K{ops:Array Oper}{Q:St->Prop}{QQ:Exit->Act->World->Prop}:∀(fuel:Nat) (listed:Array Bool) (st:St),b1r P G ops Q fuel listed st->∀(base:cN) (R:Nat->Nat->Prop) (μ:Nat->Nat) (a:Act) (w:World),Rel P G base R μ st a w->
  (∀s a' w' R' μ',Q s->Rel P G base R' μ' s a' w'->Step base R w R' w'->QQ .normal a' w')->wpAny P .any ops QQ fuel listed a w
 |0,_,st,h,base,R,μ,a,w,hr,hk=>⟨h.1,hk st a w R μ h.2 hr (.refl _ _ _)⟩
 |fuel+1,listed,st,h,base,R,μ,a,w,hr,hk=>by
  refine⟨λh0=>hk st a w R μ (h.1 h0) hr (.refl _ _ _),λi hi=>?_⟩;have h1:=h.2 i hi;unfold wpOp;split
  .rename_i ho;rw[ho]at h1;exact b0K fuel _ st h1 base R μ a w hr hk
  .rename_i o ho;rw[ho]at h1;exact qO h1 hr λs v w' R' μ' h' eK oY=>b0K fuel _ s h' base R' μ' _ w' eK λs a' w2 R2 μ2 q1 q2 q3=>hk s a' w2 R2 μ2 q1 q2 (oY.trans q3)
def eB(ops:Array Oper)(listed:Array Bool):Prop:=∀k,listed.getD k false=true->∀o,ops[k]? =some o->∀e∈o.after,Region.binds .any e=true->listed.getD e.on false=true
theorem d2G{listed:Array Bool}{i:Nat}(h0:listed.getD i true=false)(h1:listed.getD i false=true):False:=by
 rcases Nat.lt_or_ge i listed.size with h'|h'
 .simp[h']at h0 h1;rw[h0]at h1;cases h1
 .simp[Array.getElem?_eq_none h']at h1
theorem c7J{es:List Edge}{n i:Nat}{rows:List Nat}:∀(acc:Nat),(es.foldl (λacc e=>if Region.binds .any e=true/\e.on<n then acc |||((1 <<<e.on) |||rows.getD (n-1-e.on) 0) else acc) acc).testBit i=true->
  acc.testBit i=true\/∃e∈es,Region.binds .any e=true/\e.on<n/\(e.on=i\/(rows.getD (n-1-e.on) 0).testBit i=true):=by
 induction es with
 |nil=>intro acc h;exact .inl h
 |cons e es ih=>
  intro acc h;simp only[List.foldl_cons]at h;rcases ih _ h with h|⟨e',h1,h2⟩
  .split at h
   .rename_i hb;rw[Nat.testBit_or,f2Z,Nat.testBit_or,f2Z]at h;rcases h with h|h|h
    .exact .inl h
    .rw[Nat.testBit_shiftLeft]at h;simp only[f2N,decide_eq_true_eq]at h;have:i-e.on=0:=by
      have h2:=h.2;cases hx:i-e.on with
      |zero=>rfl
      |succ m=>rw[hx,Nat.testBit_succ]at h2;simp at h2
     exact .inr ⟨e,.head _,hb.1,hb.2,.inl (by omega)⟩
    .exact .inr ⟨e,.head _,hb.1,hb.2,.inr h⟩
   .exact .inl h
  .exact .inr ⟨e',.tail _ h1,h2⟩
theorem c5g(o:Oper)(r:List Oper)(n:Nat)(rows:List Nat):rowsOf (o::r) n rows=rowsOf r (n+1) ((o.after.toList.foldl (λacc e=>if Region.binds .any e=true/\e.on<n then acc |||((1 <<<e.on) |||rows.getD (n-1-e.on) 0) else acc) 0)::rows):=by rw[rowsOf];generalize (o.after.toList.foldl (λacc e=>if Region.binds .any e=true/\e.on<n then acc |||((1 <<<e.on) |||rows.getD (n-1-e.on) 0) else acc) 0)=m;cases m<;>rfl
theorem b1s{ops:Array Oper}{i:Nat}:∀(l:List Oper) (n:Nat) (rows:List Nat),rows.length=n->(∀j,l[j]? =ops[n+j]?)->
  (∀k,k<n->(rows.getD (n-1-k) 0).testBit i=true->∃o,ops[k]? =some o/\∃e∈o.after,Region.binds .any e=true/\(e.on=i\/(e.on<k/\(rows.getD (n-1-e.on) 0).testBit i=true)))->
  ∀k,k<n+l.length->((rowsOf l n rows).getD (n+l.length-1-k) 0).testBit i=true->∃o,ops[k]? =some o/\∃e∈o.after,Region.binds .any e=true/\(e.on=i\/(e.on<k/\((rowsOf l n rows).getD (n+l.length-1-e.on) 0).testBit i=true))
 |[],n,rows,_,_,h=>h
 |o::r,n,rows,hlen,hl,h=>by
  rw[c5g];generalize mW:(o.after.toList.foldl (λacc e=>if Region.binds .any e=true/\e.on<n then acc |||((1 <<<e.on) |||rows.getD (n-1-e.on) 0) else acc) 0)=row;have hlc:n+(o::r).length=(n+1)+r.length:=by simp;omega
  rw[hlc];have old:∀m,m<n->(row::rows).getD (n+1-1-m) 0=rows.getD (n-1-m) 0:=λm hm=>by
   have:n+1-1-m=(n-1-m)+1:=by omega
   rw[this];rfl
  refine b1s r (n+1) (row::rows) (by simp[hlen]) (λj=>by have:=hl (j+1);simpa[Nat.add_assoc,Nat.add_comm 1 j]using this) λk hk hb=>?_;by_cases hkn:k<n
  .rw[old k hkn]at hb;obtain⟨o1,h1,e,h2,h3,h4⟩:=h k hkn hb;refine⟨o1,h1,e,h2,h3,?_⟩;rcases h4 with h4|⟨h4,h5⟩
   .exact .inl h4
   .exact .inr ⟨h4,by rw[old e.on (by omega)];exact h5⟩
  .have:k=n:=by omega
   subst this;have h0:k+1-1-k=0:=by omega
   rw[h0]at hb;simp only[List.getD_cons_zero]at hb;rw[<-mW]at hb;rcases c7J 0 hb with hz|⟨e,h1,h2,h3,h4⟩
   .simp at hz
   .refine⟨o,by simpa using (hl 0).symm,e,by simpa using h1,h2,?_⟩;rcases h4 with h4|h4
    .exact .inl h4
    .exact .inr ⟨h3,by rw[old e.on h3];exact h4⟩
theorem cS{ops:Array Oper}{listed:Array Bool}{i:Nat}(hc:eB ops listed)(hi:listed.getD i true=false)(n:Nat):∀(k:Nat),(∀o,ops[k]? =some o->∀e∈o.after,Region.binds .any e=true->listed.getD e.on false=true)->eZ ops n k i=false:=by
 intro k
 induction k using Nat.strongRecOn with
 |_ k ih=>
  intro hk;cases hb:eZ ops n k i with
  |false=>rfl
  |true=>
   unfold eZ at hb;rw[f2N,decide_eq_true_eq]at hb;obtain⟨aI,hb⟩:=hb;have hU:0+ops.toList.length=ops.size:=by simp
   obtain⟨o,ho,e,he,hbd,h⟩:=b1s (ops:=ops) ops.toList 0 [] rfl (by simp) (λk hk=>absurd hk (Nat.not_lt_zero _)) k (by omega) (by rw[hU];exact hb);have h1:=hk o ho e he hbd;rcases h with h|⟨h2,h3⟩
   .exact(d2G hi (h▸h1)).elim
   .have:=ih e.on h2 λo' sV=>hc e.on h1 o' sV;unfold eZ at this;rw[hU]at h3;rw[h3,Bool.and_true,decide_eq_false_iff_not]at this;exact absurd (Nat.lt_trans h2 aI) this
theorem eB.set{ops:Array Oper}{listed:Array Bool}{j:Nat}(hc:eB ops listed)(hj:j∈Region.ready .any ops listed):eB ops (listed.setIfInBounds j true):=by
 intro k hk o ho e he hb;by_cases hjk:j=k
 .subst hjk;obtain⟨_,o',sV,cY⟩:=mem_ready.1 hj;rw[ho]at sV;cases sV;exact getD_set_true (cY e he hb)
 .rw[getD_set_ne false hjk]at hk;exact getD_set_true (hc k hk o ho e he hb)
theorem sZ{ops:Array Oper}{o:Oper}{k j:Nat}(h:kI ops o=true)(hk:ops[k]? =some o)(hj:j<ops.size)(dX:j≠k):eZ ops ops.size j k=true\/eZ ops ops.size k j=true:=by have h1:=f2Q.1 h k (List.mem_range.2 (f2W.1 hk).1);simp only[hk,bne_self_eq_false,Bool.false_or]at h1;have h2:=f2Q.1 h1 j (List.mem_range.2 hj);simpa[dX,or_assoc]using h2
theorem yB{k:Nat}{d:DV}(h:qM d=true):mentions k d=false:=by cases d<;>first|rfl|cases h
theorem b6r(k:Nat)(v:Value):mentions k (ofConst v)=false:=by
 unfold ofConst;split
 .split<;>rfl
 .split<;>rfl
theorem kJ{k:Nat}(h:cA k st=true):(∀v∈st.tmps,mentions k v=false)/\(∀p∈st.H,p.1≠k/\rO k p.2=true)/\(∀c∈st.own,∀l∈c.2,l.wN k=false):=by unfold cA at h;simp only[f2N,f2Q,bne_iff_ne,ne_eq,Bool.not_eq_true']at h;exact⟨h.1.1,h.1.2,h.2⟩
theorem zG{k:Nat}(h1:∀v∈st.tmps,mentions k v=false)(h2:∀p∈st.H,p.1≠k/\rO k p.2=true)(h3:∀c∈st.own,∀l∈c.2,l.wN k=false):cA k st=true:=by unfold cA;simp only[f2N,f2Q,bne_iff_ne,ne_eq,Bool.not_eq_true'];exact⟨⟨h1,h2⟩,h3⟩
theorem rP{k:Nat}(h:cA k st=true)(x:Operand):mentions k (st.eval G x)=false:=by
 cases x with
 |tmp t=>
  simp only[St.eval,List.getD];cases ht:st.tmps[t]? with
  |none=>rfl
  |some v=>exact(kJ h).1 v (f2S ht)
 |const v=>exact b6r k v
 |global g=>simp only[St.eval];split<;>rfl
 |func f=>rfl
theorem a3B{k:Nat}{o:aW}:∀ {H:List (Nat×aW)},getKey k H=some o->(k,o)∈H
 |[],h=>by simp[getKey]at h
 |(k',o')::r,h=>by
  unfold getKey at h;split at h
  .rename_i he;cases h;subst he;exact .head _
  .exact .tail _ (a3B h)
theorem yC{k:Nat}(h:cA k st=true):getKey k st.H=none:=by
 cases hk:getKey k st.H with
 |none=>rfl
 |some o=>exact absurd rfl ((kJ h).2.1 _ (a3B hk)).1
theorem b8J{k k':Nat}{cs:List DV}(h:cA k st=true)(hk:getKey k' st.H=some (.cells cs)):∀c∈cs,mentions k c=false:=λc hc=>by have:=((kJ h).2.1 _ (a3B hk)).2;simp only[rO,f2Q,Bool.not_eq_true']at this;exact this c hc
theorem c1M{k:Nat}{t:TypeId}{cs:List DV}{y:DV}(hc:∀c∈cs,mentions k c=false)(h:a9o P t cs=some y):mentions k y=false:=by
 unfold a9o at h;split at h
 .split at h
  .split at h
   .rcases a9r h with⟨ds,_,rfl⟩|⟨_,rfl⟩
    .rfl
    .exact a2L λc xA=>hc c (List.mem_of_mem_take xA)
   .cases h
  .exact hc y (List.mem_of_head? h)
 .cases h
where
 a2L {k:Nat}:∀ {cs:List DV},(∀c∈cs,mentions k c=false)->kP k cs=false
  |[],_=>rfl
  |c::r,h=>by simp only[kP,h c (.head _),a2L λx hx=>h x (.tail _ hx),Bool.or_false]
theorem a3C{k:Nat}:∀ {cs:List DV},(∀c∈cs,mentions k c=false)->kP k cs=false
 |[],_=>rfl
 |c::r,h=>by simp only[kP,h c (.head _),a3C λx hx=>h x (.tail _ hx),Bool.or_false]
theorem a9x{k:Nat}{d:DV}{cs:List DV}(h:mentions k d=false)(hc:sT d=some cs):∀c∈cs,mentions k c=false:=by
 cases d with
 |d y=>cases hc;intro c hc;obtain⟨z,_,rfl⟩:=List.mem_map.1 hc;rfl
 |ag sX=>obtain⟨_,rfl⟩:=a8w hc;intro c hc;obtain⟨i,hi⟩:=f3e hc;exact qL (by simpa[mentions]using h) i c hi
 |undef=>cases hc
 |it _=>cases hc
 |cJ _=>cases hc
 |wL _=>cases hc
 |_=>cases hc;intro c hc;simp only[f2U]at hc;subst hc;exact h
theorem a9y{k:Nat}(h:cA k st=true):∀ {l:List (Nat×Operand)} {ps:List (Nat×List DV)},xB G st l=some ps->∀p∈ps,∀c∈p.2,mentions k c=false
 |[],ps,hp=>by simp[xB]at hp;subst hp;simp
 |(i,x)::l,ps,hp=>by
  simp only[xB]at hp;split at hp
  .rename_i y ds hy hds;simp at hp;subst hp;intro p hpm;rcases List.mem_cons.1 hpm with rfl|hpm
   .exact a9x (rP h x) hy
   .exact a9y h hds p hpm
  .cases hp
theorem b4S{k:Nat}{cs ys:List DV}{off:Nat}(h1:∀c∈cs,mentions k c=false)(h2:∀c∈ys,mentions k c=false):∀c∈overwrite cs off ys,mentions k c=false:=λc hc=>by
 unfold overwrite at hc;simp only[List.mem_append]at hc;rcases hc with(hc|hc)|hc
 .exact h1 c (List.mem_of_mem_take hc)
 .exact h2 c hc
 .exact h1 c (List.mem_of_mem_drop hc)
theorem b1t{k:Nat}{t:TypeId}:∀ {ps:List (Nat×List DV)} {z r:List DV},(∀c∈z,mentions k c=false)->(∀p∈ps,∀c∈p.2,mentions k c=false)->a6T P t z ps=some r->∀c∈r,mentions k c=false
 |[],z,r,hz,_,h=>by simp[a6T]at h;subst h;exact hz
 |(i,v)::ps,z,r,hz,hp,h=>by
  simp only[a6T]at h;split at h
  .cases h
  .split at h
   .exact b1t (b4S hz (hp _ (.head _))) (λp hpm=>hp p (.tail _ hpm)) h
   .cases h
theorem b8K(k:Nat)(v:Value):mentions k (cellOf v)=false:=by unfold cellOf;split<;>rfl
theorem c1N(t:TypeId)(k:Nat)(v:Value):mentions k (a0k t v)=false:=by
 unfold a0k;split
 .rfl
 .split<;>rfl
theorem c1O{k:Nat}{t:TypeId}{z:List DV}(h:b8h P t=some z):∀c∈z,mentions k c=false:=by
 unfold b8h at h;obtain⟨v,_,h2⟩:=f3b.1 h;split at h2
 .cases h2;intro c hc;obtain⟨y,_,rfl⟩:=List.mem_map.1 hc;exact b8K k y
 .cases h2
theorem c1P{k:Nat}{t:TypeId}{z:List DV}(h:b8g P t=some z):∀c∈z,mentions k c=false:=by unfold b8g at h;obtain⟨v,_,rfl⟩:=f2M.1 h;intro c hc;obtain⟨y,_,rfl⟩:=List.mem_map.1 hc;exact c1N _ k y
theorem b8L{o:Oper}(hq:cO o.op=true){k:Nat}(hf:cA k st=true)(h:jT P G o st=some out):mentions k out.v=false:=by
 obtain⟨dst,op,ty,pos,after,guard⟩:=o;have he:∀x:Operand,mentions k (st.eval G x)=false:=rP hf;cases op<;>simp only[cO]at hq<;>try cases hq
 case move x=>simp only[jT,a1s,f2T]at h;subst h;exact he x
 case assign x=>simp only[jT,a1s,f2T]at h;subst h;exact he x
 case pick c a b=>
  simp only[jT,b0W]at h;split at h
  .simp only[f2T]at h;subst h;simp only;split
   .exact he a
   .exact he b
  .cases h
 case build t ps=>
  simp only[jT,a5Q]at h;split at h
  .split at h
   .obtain⟨c,_,rfl⟩:=f2M.1 h;rfl
   .unfold a4A at h;split at h
    .rename_i z qs hz hps;obtain⟨cs,pR,rfl⟩:=f2M.1 h;exact a3C (b1t (c1O hz) (a9y hf hps) pR)
    .cases h
  .cases h
 case buildSlice t n ps=>
  simp only[jT,qW]at h;split at h
  .split at h
   .simp only[f2T]at h;subst h;rfl
   .cases h
  .cases h
 case load t x=>
  simp only[jT,a9p]at h;split at h
  .split at h
   .rename_i cs hk;obtain⟨y,hy,rfl⟩:=f2M.1 h;exact c1M (λc hc=>b8J hf hk c (List.mem_of_mem_drop hc)) hy
   .cases h
  .obtain⟨y,_,rfl⟩:=f2M.1 h;rfl
  .cases h
 case nilCheck x=>have:=he x;simp only[jT,tG]at h;split at h<;>first|(cases h;done)|(rename_i hx;rw[hx]at this;simp only[f2T]at h;subst h;exact this)
 case binOp op t x y u=>
  simp only[jT,b0X,yX,c1s]at h;split at h
  .split at h<;>first|(cases h;done)|(simp only[f2T]at h;subst h;simp only;first|rfl|(split<;>rfl))
  .split at h
   .obtain⟨c,_,rfl⟩:=f2M.1 h;rfl
   .cases h
 case unOp op t x=>
  simp only[jT,vUn]at h;split at h
  .obtain⟨c,_,rfl⟩:=f2M.1 h;rfl
  .cases h
 case convert src dst x=>
  simp only[jT,b0Y]at h;split at h
  .obtain⟨c,_,rfl⟩:=f2M.1 h;rfl
  .cases h
 case lookup t m k ok=>
  simp only[jT,a4B]at h;split at h
  .split at h
   .obtain⟨c,_,rfl⟩:=f2M.1 h;simp only;split<;>rfl
   .cases h
  .cases h
 case extract x i=>
  simp only[jT,yZ]at h;split at h
  .obtain⟨c,_,rfl⟩:=f2M.1 h;rfl
  .cases h
 case field t x i=>
  simp only[jT,a5R]at h;split at h
  .obtain⟨c,_,rfl⟩:=f2M.1 h;rfl
  .cases h
 case index t x i=>
  simp only[jT,a5S]at h;split at h
  .obtain⟨j,_,h⟩:=f3b.1 h;obtain⟨c,_,rfl⟩:=f2M.1 h;rfl
  .obtain⟨j,_,h⟩:=f3b.1 h;obtain⟨c,_,rfl⟩:=f2M.1 h;rfl
  .cases h
 case indexAddr t x i=>
  have hx:=he x;simp only[jT,qX]at h;split at h
  .obtain⟨j,_,h⟩:=f3b.1 h;obtain⟨c,_,h⟩:=f3b.1 h;split at h
   .simp only[f2T]at h;subst h;rfl
   .cases h
  .rename_i hxe _;split at h
   .cases h
   .obtain⟨j,_,rfl⟩:=f2M.1 h;rw[hxe]at hx;exact hx
  .split at h
   .cases h
   .obtain⟨j,_,rfl⟩:=f2M.1 h;rfl
  .cases h
 case fieldAddr t x i=>
  have hx:=he x;simp only[jT,qY]at h;split at h
  .split at h
   .cases h
   .split at h
    .rename_i hxe;simp only[f2T]at h;subst h;rw[hxe]at hx;exact hx
    .simp only[f2T]at h;subst h;rfl
    .cases h
  .cases h
 case slice t x lo hi mx=>
  simp only[jT,a5T]at h;split at h
  .obtain⟨j,_,h⟩:=f3b.1 h;obtain⟨c,_,rfl⟩:=f2M.1 h;rfl
  .split at h
   .obtain⟨j,_,h⟩:=f3b.1 h;obtain⟨c,_,rfl⟩:=f2M.1 h;rfl
   .cases h
  .split at h
   .obtain⟨j,_,h⟩:=f3b.1 h;obtain⟨c,_,rfl⟩:=f2M.1 h;rfl
   .cases h
  .split at h
   .simp only[f2T]at h;subst h;rfl
   .cases h
  .split at h
   .simp only[f2T]at h;subst h;rfl
   .cases h
  .cases h
 case call c=>
  obtain⟨callee,args,ts⟩:=c;cases callee with
  |value f=>simp[jT]at h
  |invoke r m=>simp at hq
  |builtin b=>
   simp only[jT,qZ]at h;split at h
   .simp only[c4M]at h;split at h
    .simp only[f2T]at h;subst h;rfl
    .simp only[f2T]at h;subst h;rfl
    .simp only[f2T]at h;subst h;rfl
    .split at h
     .simp only[f2T]at h;subst h;rfl
     .cases h
    .cases h
   .simp at hq
   .simp at hq
   .simp only[c4N]at h;split at h
    .simp only[f2T]at h;subst h;rfl
    .cases h
   .simp only[c4O]at h;split at h
    .simp only[f2T]at h;subst h;rfl
    .cases h
   .cases h
theorem bW{k:Nat}{dst:Option Tmp}{v:DV}{act:OA}(h:cA k st=true)(hv:mentions k v=false):cA k (finish st dst v act)=true:=by
 obtain⟨h1,h2,h3⟩:=kJ h;cases dst with
 |none=>exact h
 |some d=>
  refine zG (λu hu=>?_) h2 (λc hc l hl=>?_)
  .rcases List.mem_or_eq_of_mem_set hu with hu|rfl
   .exact h1 u hu
   .exact hv
  .have drop:∀c∈cE (.t d) st.own,∀l∈c.2,l.wN k=false:=λc hc l hl=>by obtain⟨c0,xZ,rfl⟩:=List.mem_map.1 hc;exact h3 c0 xZ l (List.mem_filter.1 hl).1
   simp only[finish]at hc;cases act with
   |no=>exact drop c hc l hl
   |al l0=>
    simp only[dO]at hc;split at hc
    .exact h3 c hc l hl
    .unfold addAlias at hc;obtain⟨c0,xZ,rfl⟩:=List.mem_map.1 hc;split at hl
     .rcases List.mem_cons.1 hl with rfl|hl
      .rfl
      .exact drop c0 xZ l hl
     .exact drop c0 xZ l hl
   |fresh e=>
    simp only[dO]at hc;rcases List.mem_cons.1 hc with rfl|hc
    .simp only[f2U]at hl;subst hl;rfl
    .exact drop c hc l hl
theorem QY.free{all:Array Oper}{o:Oper}{d:DV}{act:OA}{k:Nat}(hq:cO o.op=true)(h:QY P G all o d act st)(hf:cA k st=true):mentions k d=false:=by
 rcases h with⟨_,⟨f,ds,own,_,_,_,hk,_⟩|⟨_,_,ho⟩|⟨_,f,f2L,ks,_,_,_,_,_,hk,_⟩⟩|⟨_,rfl,_⟩
 .exact yB hk
 .exact b8L hq hf ho
 .exact yB hk
 .rfl
theorem eC{o:Oper}(h:(isApp o||dV o)=true):oD o=true:=by unfold oD;rw[h];rfl
theorem gD{o:Oper}(h:oD o=true):gJ G o st=none/\cR G o st=none/\cO o.op=false/\a2c o=false:=by
 obtain⟨dst,op,ty,pos,after,guard⟩:=o;cases op with
 |call c=>
  obtain⟨callee,args,ts⟩:=c;cases callee with
  |builtin b=>cases b<;>first|exact⟨rfl,rfl,rfl,rfl⟩|(simp[oD,isApp,dV,b0n]at h)
  |_=>simp[oD,isApp,dV,b0n]at h
 |alloc e=>exact⟨rfl,rfl,rfl,rfl⟩
 |store _ _ _=>exact⟨rfl,rfl,rfl,rfl⟩
 |_=>simp[oD,isApp,dV,b0n]at h
def Eff(P:Program)(G:GT)(all:Array Oper)(o:Oper)(st s:St):Prop:=
 (cO o.op=true/\∃d act,QY P G all o d act st/\s=finish st o.dst d (a5d all o act))\/
 (oD o=true/\((dJ o all st.tmps=some true/\∃out,jT P G o st=some out/\s=finish out.st o.dst out.v out.act)\/(dJ o all st.tmps=some false/\s=finish st o.dst (.cJ []) .no)))
theorem dC{all:Array Oper}{o:Oper}{K:St->Prop}(h:(cO o.op=true/\kI all o=false)\/oD o=true):mE P G true all o K st↔∃s,Eff P G all o st s/\K s:=by
 rcases h with⟨hq,hal⟩|hs
 .rw[c1L hq hal];constructor
  .rintro⟨d,act,h1,h2⟩;exact⟨_,.inl ⟨hq,d,act,h1,rfl⟩,h2⟩
  .rintro⟨s,⟨_,d,act,h1,rfl⟩|⟨hs,_⟩,h2⟩
   .exact⟨d,act,h1,h2⟩
   .rw[(gD (G:=G) (st:=st) hs).2.2.1]at hq;cases hq
 .obtain⟨h1,h2,h3,_⟩:=gD (G:=G) (st:=st) hs;have xD:∀d act,a7d true all o d act=act:=λd act=>by simp[a7d,h3]
  unfold mE;rw[h1,h2];simp only;constructor
  .intro h;split at h
   .rename_i hw;split at h
    .rename_i out ho;rw[xD]at h;exact⟨_,.inr ⟨hs,.inl ⟨hw,out,ho,rfl⟩⟩,h⟩
    .cases h
   .rename_i hw;exact⟨_,.inr ⟨hs,.inr ⟨hw,rfl⟩⟩,h⟩
   .cases h
  .rintro⟨s,⟨hq,_⟩|⟨_,⟨hw,out,ho,rfl⟩|⟨hw,rfl⟩⟩,hk⟩
   .rw[h3]at hq;cases hq
   .rw[hw];simp only;rw[ho];simp only;rw[xD];exact hk
   .rw[hw];exact hk
theorem dS{x y:Option Tmp}{d e:DV}{a:OA}(h:∀t,x=some t->y≠some t)(ha:a=.no\/∃k,a=.fresh k):finish (finish st x d .no) y e a=finish (finish st y e a) x d .no:=by
 cases x with
 |none=>cases y<;>rfl
 |some t=>
  cases y with
  |none=>rfl
  |some u=>
   have dX:t≠u:=λhe=>h t rfl (he▸rfl);simp only[finish];rw[List.set_comm _ _ dX];congr 1;rcases ha with rfl|⟨k,rfl⟩
   .exact pJ _ _ _
   .exact(a6h (Ne.symm dX) _).symm
theorem a7f{l x:Loc}(h:l≠x):∀own:List (TypeId×List Loc),eV l (cE x own)=(eV l own).map λp=>(p.1,cE x p.2)
 |[]=>rfl
 |c::r=>by
  have hc:=a5r h c.2;have ih:=a7f h r;unfold cE at ih|-;simp only[List.map_cons,eV,hc];split
  .rfl
  .rw[ih];cases eV l r<;>rfl
theorem a9z{l:Loc}:∀ {own:List (TypeId×List Loc)} {e:TypeId} {dP:List (TypeId×List Loc)},eV l own=some (e,dP)->∀c∈dP,c∈own
 |c::r,e,dP,h,x,hx=>by
  unfold eV at h;split at h
  .cases h;exact .tail _ hx
  .obtain⟨p,hp,he⟩:=f2M.1 h;cases he;rcases List.mem_cons.1 hx with rfl|hx
   .exact .head _
   .exact .tail _ (a9z hp x hx)
theorem wS{o:Oper}(h:isApp o=true)(ho:jT P G o st=some out):(∃e,out.act=.fresh e)/\(∃es,out.v=.d (.sl es))/\∃dP,out.st={st with own:=dP}/\∀c∈dP,c∈st.own:=by
 obtain⟨dst,op,ty,pos,after,guard⟩:=o;cases op with
 |call c=>
  obtain⟨callee,args,ts⟩:=c;cases callee with
  |builtin b=>
   cases b<;>simp[isApp]at h;simp only[jT,qZ]at ho;split at ho
   .rename_i h1 _ _;cases h1
   .unfold a1T at ho;split at ho
    .split at ho
     .split at ho
      .split at ho
       .simp only[f2T]at ho;subst ho;exact⟨⟨_,rfl⟩,⟨_,rfl⟩,st.own,rfl,λ_ h=>h⟩
       .cases ho
      .split at ho
       .rename_i e' dP ht;split at ho
        .simp only[f2T]at ho;subst ho;exact⟨⟨_,rfl⟩,⟨_,rfl⟩,dP,rfl,a9z ht⟩
        .cases ho
       .cases ho
      .cases ho
     .cases ho
    .cases ho
   .rename_i h1 _ _;cases h1
   .rename_i h1 _;cases h1
   .rename_i h1 _;cases h1
   .cases ho
  |_=>simp[isApp]at h
 |_=>simp[isApp]at h
theorem vI{all:Array Oper}{o:Oper}(h:isApp o=true){dst:Option Tmp}{d:DV}(hl:∀t,dst=some t->t ∉ o.looksAt all):jT P G o (finish st dst d .no)=(jT P G o st).map λout=>⟨out.v,out.act,finish out.st dst d .no⟩:=by
 have he:=a6f (G:=G) (st:=st) (d:=d) (act:=.no) hl;obtain⟨e6o,op,ty,pos,after,guard⟩:=o;cases op with
 |call c=>
  obtain⟨callee,args,ts⟩:=c;cases callee with
  |builtin b=>
   cases b<;>simp[isApp]at h;have mem:∀ {x:Operand} {l:List Operand},args.toList=l->x∈l->(finish st dst d .no).eval G x=st.eval G x:=λhl hx=>he _ (by simp only[Op.operands,Call.operands];rw[<-Array.mem_toList_iff];simp[hl,hx]);simp only[jT,qZ];split
   .rename_i h1 _ _;cases h1
   .rename_i s x t' t'' _ heq _;have hs:=mem heq (x:=s) (by simp);have hx:=mem heq (x:=x) (by simp);simp only[a1T,hs,hx];split
    .split
     .split
      .split
       .rfl
       .rfl
      .rename_i xs i _;cases dst with
       |none=>
        simp only[finish];split
        .split
         .rfl
         .rfl
        .rfl
       |some u=>
        have dX:(Loc.t i)≠ .t u:=λe=>hl u rfl (by cases e;exact List.mem_append_left _ (List.mem_filterMap.2 ⟨.tmp i,by simp[Op.operands,Call.operands,heq],rfl⟩))
        simp only[finish,dO,a7f dX];cases eV (.t i) st.own with
        |none=>rfl
        |some p=>
         obtain⟨e',dP⟩:=p;simp only[Option.map_some];split
         .rfl
         .rfl
      .rfl
     .rfl
    .rfl
   .rename_i h1 _ _;cases h1
   .rename_i h1 _;cases h1
   .rename_i h1 _;cases h1
   .rfl
  |_=>simp[isApp]at h
 |_=>simp[isApp]at h
theorem b8M{o:Oper}(h:isApp o=true){H:List (Nat×aW)}:jT P G o {st with H:=H}=(jT P G o st).map λout=>⟨out.v,out.act,{out.st with H:=H}⟩:=by
 obtain⟨e6o,op,ty,pos,after,guard⟩:=o;have he:∀x:Operand,({st with H:=H}:St).eval G x=st.eval G x:=λx=>by cases x<;>rfl
 cases op with
 |call c=>
  obtain⟨callee,args,ts⟩:=c;cases callee with
  |builtin b=>
   cases b<;>simp[isApp]at h;simp only[jT,qZ];split
   .rename_i h1 _ _;cases h1
   .simp only[a1T,he];split
    .split
     .split
      .split<;>rfl
      .cases eV _ st.own with
       |none=>rfl
       |some p=>obtain⟨e',dP⟩:=p;simp only;split<;>rfl
      .rfl
     .rfl
    .rfl
   .rename_i h1 _ _;cases h1
   .rename_i h1 _;cases h1
   .rename_i h1 _;cases h1
   .rfl
  |_=>simp[isApp]at h
 |_=>simp[isApp]at h
theorem c5i{k:Nat}{cs:List DV}(h:∀c∈cs,mentions k c=false):rO k (b0V cs)=true:=by
 unfold b0V;split
 .rfl
 .simp only[rO,f2Q,Bool.not_eq_true'];exact h
theorem rE{o:Oper}(h:dV o=true):∃d,o.dst=some d/\((∃cs:aW,(∀k,rO k cs=true)/\∀st:St,jT P G o st=some ⟨.ptr d 0,.no,eG st d cs⟩)\/∀st:St,jT P G o st=none):=by
 obtain⟨dst,op,ty,pos,after,guard⟩:=o;cases op with
 |alloc e=>
  cases dst with
  |none=>simp[dV]at h
  |some d=>
   refine⟨d,rfl,?_⟩;simp only[jT,a8s];cases hz:jA P e with
   |some cs=>
    simp only;by_cases hd:d<100000
    .simp only[hd,if_true];exact .inl ⟨.cells (cs.map .d),λk=>by simp only[rO,f2Q,Bool.not_eq_true'];intro c hc;obtain⟨y,_,rfl⟩:=List.mem_map.1 hc;rfl,λ_=>rfl⟩
    .simp only[hd,if_false];exact .inr λ_=>trivial
   |none=>
    simp only;cases hc:b8g P e with
    |some cs=>
     simp only;by_cases hd:d<100000
     .simp only[hd,if_true];exact .inl ⟨b0V cs,λk=>c5i (c1P hc),λ_=>rfl⟩
     .simp only[hd,if_false];exact .inr λ_=>trivial
    |none=>exact .inr λ_=>rfl
 |_=>simp[dV]at h
theorem a3D{α:Type}{f:α->α}:∀ {l:List α},(∀x∈l,f x=x)->l.map f=l
 |[],_=>rfl
 |x::r,h=>by rw[List.map_cons,h x (.head _),a3D λy hy=>h y (.tail _ hy)]
theorem bM{k:Nat}{o:aW}(h:cA k st=true):eG st k o={st with H:=bU k o st.H}:=by
 obtain⟨h1,h2,h3⟩:=kJ h;unfold eG;have e1:st.tmps.map (jV k)=st.tmps:=a3D λv hv=>by unfold jV;rw[h1 v hv,if_neg (by simp)]
 have e2:(st.H.map λp=>(p.1,a0j k p.2))=st.H:=a3D λp hp=>by
  obtain⟨a,b⟩:=p;have:=(h2 _ hp).2;cases b with
  |cells cs=>simp only[rO,f2Q,Bool.not_eq_true']at this;simp only[a0j];rw[a3D λv hv=>by unfold jV;rw[this v hv,if_neg (by simp)]]
  |_=>rfl
 have e3:dropKey k st.own=st.own:=a3D λc hc=>by obtain⟨a,b⟩:=c;simp only;rw[List.filter_eq_self.2 λl hl=>by simp[h3 _ hc l hl]]
 rw[e1,e2,e3]
theorem a9A{k:Nat}{o:aW}:∀ {H:List (Nat×aW)} {p:Nat×aW},p∈yV k o H->p=(k,o)\/p∈H
 |(k',o')::r,p,h=>by
  unfold yV at h;split at h
  .rcases List.mem_cons.1 h with h|h
   .exact .inl h
   .exact .inr (.tail _ h)
  .rcases List.mem_cons.1 h with h|h
   .exact .inr (h▸ .head _)
   .rcases a9A h with h|h
    .exact .inl h
    .exact .inr (.tail _ h)
theorem a9B{k:Nat}{o:aW}:∀ {H:List (Nat×aW)} {p:Nat×aW},p∈kB k o H->p=(k,o)\/p∈H
 |[],p,h=>by simp[kB]at h;exact .inl h
 |(k',o')::r,p,h=>by
  unfold kB at h;split at h
  .rcases List.mem_cons.1 h with h|h
   .exact .inl h
   .exact .inr h
  .rcases List.mem_cons.1 h with h|h
   .exact .inr (h▸ .head _)
   .rcases a9B h with h|h
    .exact .inl h
    .exact .inr (.tail _ h)
theorem a3E{k:Nat}{o:aW}{H:List (Nat×aW)}{p:Nat×aW}(h:p∈bU k o H):p=(k,o)\/p∈H:=by
 unfold bU at h;split at h
 .exact a9A h
 .exact a9B h
theorem a3F{k d:Nat}{cs:aW}(hd:d≠k)(hc:rO k cs=true)(h:cA k st=true):cA k (eG st d cs)=true:=by
 obtain⟨h1,h2,h3⟩:=kJ h;have kill:∀v:DV,mentions k v=false->mentions k (jV d v)=false:=λv hv=>by
  unfold jV;split
  .rfl
  .exact hv
 refine zG (λv hv=>?_) (λp hp=>?_) λc hcc l hl=>?_
 .obtain⟨u,hu,rfl⟩:=List.mem_map.1 hv;exact kill u (h1 u hu)
 .rcases a3E hp with rfl|hp
  .exact⟨hd,hc⟩
  .obtain⟨q,hq,rfl⟩:=List.mem_map.1 hp;obtain⟨q1,q2⟩:=h2 q hq;refine⟨q1,?_⟩;cases hq2:q.2 with
   |cells c0=>rw[hq2]at q2;simp only[rO,a0j,f2Q,Bool.not_eq_true']at q2|-;intro v hv;obtain⟨u,hu,rfl⟩:=List.mem_map.1 hv;exact kill u (q2 u hu)
   |_=>rfl
 .obtain⟨c0,xZ,rfl⟩:=List.mem_map.1 hcc;exact h3 c0 xZ l (List.mem_filter.1 hl).1
theorem b6s(k:Nat)(x:Loc)(own:List (TypeId×List Loc)):dropKey k (cE x own)=cE x (dropKey k own):=by simp only[dropKey,cE,List.map_map];refine List.map_congr_left λc _=>?_;simp only[Function.comp,List.filter_filter,Bool.and_comm]
theorem a7g{o:Oper}(h:b0n o=true):o.dst=none/\∃t a x,o.op=.store t a x:=by
 obtain⟨dst,op,ty,pos,after,guard⟩:=o;cases op with
 |store t a x=>
  cases dst with
  |none=>exact⟨rfl,t,a,x,rfl⟩
  |some d=>simp[b0n]at h
 |_=>simp[b0n]at h
theorem c7K{o:Oper}(h:b0n o=true)(ho:jT P G o st=some out):out.v=.cJ []/\out.act=.no/\out.st.tmps=st.tmps:=by
 obtain⟨_,t,a,x,mV⟩:=a7g h;simp only[jT,mV,qE]at ho;split at ho
 .split at ho
  .split at ho
   .simp only[f2T]at ho;subst ho;exact⟨rfl,rfl,rfl⟩
   .cases ho
  .cases ho
 .cases ho
theorem b4T{all:Array Oper}{o:Oper}(h:b0n o=true){dst:Option Tmp}{d:DV}(hl:∀t,dst=some t->t ∉ o.looksAt all):jT P G o (finish st dst d .no)=(jT P G o st).map λout=>⟨out.v,out.act,finish out.st dst d .no⟩:=by
 have he:=a6f (G:=G) (st:=st) (d:=d) (act:=.no) hl;obtain⟨_,t,a,x,mV⟩:=a7g h;have ha:=he a (by simp[mV,Op.operands]);have hx:=he x (by simp[mV,Op.operands]);have hxl:∀u s,dst=some u->sU x=.al (.t s)->s≠u:=λu s hu hs e=>by
  cases x with
  |tmp j=>simp only[sU,OA.al.injEq,Loc.t.injEq]at hs;exact hl u hu (by rw[<-e, <- hs];exact List.mem_append_left _ (List.mem_filterMap.2 ⟨.tmp j,by simp[mV,Op.operands],rfl⟩))
  |_=>cases hs
 simp only[jT,mV,qE,ha,hx,a3A];split
 .rename_i k off ys _ _;split
  .split
   .simp only[Option.map_some,f2T,Out.mk.injEq,true_and];cases dst with
    |none=>rfl
    |some u=>
     simp only[finish,St.mk.injEq,true_and];split
     .rcases a0q (st.eval G x) (sU x)with h1|h1
      .rw[h1];exact(pJ _ _ _)
      .rw[h1];cases hx':sU x with
       |no=>exact(pJ _ _ _)
       |al l=>
        cases x with
        |tmp j=>simp only[sU,OA.al.injEq]at hx';subst hx';have hju:(Loc.t j)≠ .t u:=λe=>hxl u j rfl rfl (by cases e;rfl);simp only[dO];rw[if_neg (by simp),if_neg (by simp),pJ,b1q hju (by simp)]
        |_=>cases hx'
       |fresh e=>cases x<;>cases hx'
     .exact b6s _ _ _
   .rfl
  .rfl
 .rfl
theorem c7L{o:Oper}(hq:a6e o.op=true){st':St}(he:∀x∈o.op.operands,st'.eval G x=st.eval G x):jT P G o st'=(jT P G o st).map λout=>⟨out.v,out.act,st'⟩:=by
 obtain⟨dst,op,ty,pos,after,guard⟩:=o;have bV:∀(x:Option Operand) (d n:Nat),(∀y,x=some y->st'.eval G y=st.eval G y)->eP G st' x d n=eP G st x d n:=λx d n hx=>by
  cases x with
  |none=>rfl
  |some y=>simp only[eP,hx y rfl]
 cases op<;>simp only[a6e]at hq<;>try cases hq
 all_goals simp only[Op.operands]at he
 case move x=>simp[jT,a1s,he]
 case assign x=>simp[jT,a1s,he]
 case pick c a b=>simp only[jT,b0W,he c (by simp),he a (by simp),he b (by simp)];split<;>rfl
 case nilCheck x=>simp only[jT,tG,he x (by simp)];split<;>rfl
 case binOp op t x y u=>
  simp only[jT,b0X,yX,c1s,he x (by simp),he y (by simp)];split
  .split<;>rfl
  .split
   .simp[Option.map_map,Function.comp_def]
   .rfl
 case unOp op t x=>
  simp only[jT,vUn,he x (by simp)];split
  .simp[Option.map_map,Function.comp_def]
  .rfl
 case convert src dst x=>
  simp only[jT,b0Y,he x (by simp)];split
  .simp[Option.map_map,Function.comp_def]
  .rfl
 case extract x i=>
  simp only[jT,yZ,he x (by simp)];split
  .simp[Option.map_map,Function.comp_def]
  .rfl
 case field t x i=>
  simp only[jT,a5R,he x (by simp)];split
  .simp[Option.map_map,Function.comp_def]
  .rfl
 case index t x i=>
  simp only[jT,a5S,he x (by simp),he i (by simp)];split
  .simp[Option.map_bind,Option.map_map,Function.comp_def]
  .simp[Option.map_bind,Option.map_map,Function.comp_def]
  .rfl
 case indexAddr t x i=>
  simp only[jT,qX,he x (by simp),he i (by simp)];split
  .rw[Option.map_bind];congr 1;funext j;simp only[Function.comp];rw[Option.map_bind];congr 1;funext cs;simp only[Function.comp];split<;>rfl
  .split
   .rfl
   .simp[Option.map_map,Function.comp_def]
  .split
   .rfl
   .simp[Option.map_map,Function.comp_def]
  .rfl
 case fieldAddr t x i=>
  simp only[jT,qY,he x (by simp)];split
  .split
   .rfl
   .split<;>rfl
  .rfl
 case slice t x lo hi mx=>
  have tQ:∀y,lo=some y->st'.eval G y=st.eval G y:=λy hy=>he y (by simp[hy]);have hhi:∀y,hi=some y->st'.eval G y=st.eval G y:=λy hy=>he y (by simp[hy]);have hmx:∀y,mx=some y->st'.eval G y=st.eval G y:=λy hy=>he y (by simp[hy]);simp only[jT,a5T,he x (by simp),bV lo _ _ tQ,bV hi _ _ hhi];split
  .simp[Option.map_bind,Option.map_map,Function.comp_def]
  .split
   .simp[Option.map_bind,Option.map_map,Function.comp_def]
   .rfl
  .split
   .simp[Option.map_bind,Option.map_map,Function.comp_def]
   .rfl
  .rw[bV (some _) _ _ λy hy=>hmx y hy];split<;>rfl
  .rw[bV (some _) _ _ λy hy=>hmx y hy];split<;>rfl
  .rfl
theorem mF{o:Oper}(h:a6e o.op=true):cO o.op=true/\cR G o st=none/\gJ G o st=none:=by obtain⟨dst,op,ty,pos,after,guard⟩:=o;cases op<;>simp only[a6e]at h<;>first|exact⟨rfl,rfl,rfl⟩|cases h
theorem QY.pure{all:Array Oper}{o:Oper}{d:DV}{ac:OA}{st':St}(h:QY P G all o d ac st)(hq:a6e o.op=true)(ht:st'.tmps=st.tmps):QY P G all o d ac st':=by
 have he:∀x:Operand,st'.eval G x=st.eval G x:=λx=>by cases x<;>simp[St.eval,ht]
 obtain⟨_,h1,h2⟩:=mF (G:=G) (st:=st) hq;obtain⟨_,h1',h2'⟩:=mF (G:=G) (st:=st') hq;rcases h with⟨hw,⟨f,ds,own,hc,_⟩|⟨hc,hch,ho⟩|⟨hc,f,f2L,ks,hch,_⟩⟩|⟨hw,h3⟩
 .rw[h2]at hc;cases hc
 .exact .inl ⟨by rw[ht];exact hw,.inr (.inl ⟨h2',h1',by rw[c7L hq (λx _=>he x),ho];rfl⟩)⟩
 .rw[h1]at hch;cases hch
 .exact .inr ⟨by rw[ht];exact hw,h3⟩
theorem b1u{o:Oper}{k:Nat}{t:TypeId}{ad x:Operand}(ho:o.op=.store t ad x)(hf:cA k st=true)(h:jT P G o st=some out):cA k out.st=true/\mentions k out.v=false:=by
 obtain⟨h1,h2,h3⟩:=kJ hf;simp only[jT,ho,qE]at h;split at h
 .rename_i key off ys ha hx;have dX:key≠k:=λe=>by have:=rP (G:=G) hf ad;rw[ha]at this;simp only[mentions,beq_eq_false_iff_ne,ne_eq]at this;exact this e
  split at h
  .rename_i cs hk;split at h
   .simp only[f2T]at h;subst h;refine⟨zG h1 (λp hp=>?_) λc hc l hl=>?_,rfl⟩
    .rcases a3E hp with rfl|hp
     .refine⟨dX,?_⟩;simp only[rO,f2Q,Bool.not_eq_true'];exact b4S (λc hc=>b8J hf hk c hc) (a9x (rP hf x) hx)
     .exact h2 p hp
    .simp only at hc;have drop:∀c∈cE (.c key off) st.own,∀l∈c.2,l.wN k=false:=λc hc l hl=>by obtain⟨c0,xZ,rfl⟩:=List.mem_map.1 hc;exact h3 c0 xZ l (List.mem_filter.1 hl).1
     have sW:(Loc.c key off).wN k=false:=by simp[Loc.wN,dX]
     split at hc
     .generalize qV (st.eval G x) (sU x)=act at hc;cases act with
      |no=>exact drop c hc l hl
      |al l0=>
       simp only[dO]at hc;split at hc
       .exact h3 c hc l hl
       .unfold addAlias at hc;obtain⟨c0,xZ,rfl⟩:=List.mem_map.1 hc;split at hl
        .rcases List.mem_cons.1 hl with rfl|hl
         .exact sW
         .exact drop c0 xZ l hl
        .exact drop c0 xZ l hl
      |fresh e=>
       simp only[dO]at hc;rcases List.mem_cons.1 hc with rfl|hc
       .simp only[f2U]at hl;subst hl;exact sW
       .exact drop c hc l hl
     .obtain⟨c0,xZ,rfl⟩:=List.mem_map.1 hc;exact h3 c0 xZ l (List.mem_filter.1 hl).1
   .cases h
  .cases h
 .cases h
theorem sK{all:Array Oper}{o:Oper}{s:St}{k:Nat}(h:Eff P G all o st s)(hf:cA k st=true)(hn:dV o=true->o.dst≠some k):cA k s=true:=by
 rcases h with⟨hq,d,act,hy,rfl⟩|⟨hs,⟨hw,out,ho,rfl⟩|⟨hw,rfl⟩⟩
 .exact bW hf (hy.free hq hf)
 .cases ha:isApp o with
  |true=>obtain⟨_,⟨es,hv⟩,dP,mM,b8N⟩:=wS ha ho;obtain⟨h1,h2,h3⟩:=kJ hf;refine bW ?_ (by rw[hv];rfl);rw[mM];exact zG h1 h2 λc hc=>h3 c (b8N c hc)
  |false=>
   cases hs2:dV o with
   |true=>
    obtain⟨d,hd,⟨cs,pR,hv⟩|hv⟩:=rE (P:=P) (G:=G) hs2
    .rw[hv]at ho;cases ho;have hdk:d≠k:=λe=>hn hs2 (e▸hd);exact bW (a3F hdk (pR k) hf) (by simp[mentions,hdk])
    .rw[hv]at ho;cases ho
   |false=>
    have mM:b0n o=true:=by simpa[oD,ha,hs2]using hs
    obtain⟨_,t,a,x,mV⟩:=a7g mM;obtain⟨h1,h2⟩:=b1u mV hf ho;exact bW h1 h2
 .exact bW hf rfl
theorem yQ{H:List (Nat×aW)}(x:Operand):({st with H:=H}:St).eval G x=st.eval G x:=by cases x<;>rfl
theorem a9C{own:List (TypeId×List Loc)}(x:Operand):({st with own:=own}:St).eval G x=st.eval G x:=by cases x<;>rfl
theorem b4U{ops:Array Oper}{o:Oper}(h:dV o=true):sA ops o=false:=by
 obtain⟨dst,op,ty,pos,after,guard⟩:=o;cases op with
 |alloc e=>cases guard<;>cases dst<;>rfl
 |_=>simp[dV]at h
theorem a7h{ops:Array Oper}{x y:Oper}{s1 s12:St}(xE:x.apart ops y=true)(hp:pI ops x y=true)(fx:dV x=true->∀d,x.dst=some d->cA d st=true)(fy:dV y=true->∀d,y.dst=some d->cA d st=true)(h1:Eff P G ops x st s1)(h2:Eff P G ops y s1 s12):∃s2,Eff P G ops y st s2/\Eff P G ops x s2 s12:=by
 obtain⟨a1,a2,a3⟩:=Oper.apart_spec xE;have a2':∀t,y.dst=some t->x.dst≠some t:=λt ht he=>a2 t he ht;unfold pI at hp;simp only[f2Z,f2N,Bool.not_eq_true']at hp;have noq:∀ {o:Oper} {a:OA},sA ops o=false->a5d ops o a=.no:=λhn=>by unfold a5d;rw[hn];rfl
 rcases hp with((((((⟨⟨hqx,hqy⟩,hnn⟩|⟨⟨hqx,hsy⟩,hnx⟩)|⟨⟨⟨hsx,hqy⟩,hny⟩,hcy⟩)|⟨hqx,c3B⟩)|⟨⟨c3C,hqy⟩,hcy⟩)|⟨⟨hsx,hsy⟩,hnn⟩)|⟨⟨hpx,hnx⟩,hsy⟩)|⟨⟨hsx,hpy⟩,hny⟩
 ·
  rcases h1 with⟨_,d,ax,hx,rfl⟩|⟨hs,_⟩
  .rcases h2 with⟨_,e,ay,hy,rfl⟩|⟨hs,_⟩
   .have hy':=(QY.finish hqy a1).1 hy;refine⟨_,.inl ⟨hqy,e,ay,hy',rfl⟩,.inl ⟨hqx,d,ax,(QY.finish hqx a3).2 hx,?_⟩⟩;exact wR a2 a1 a3 hnn hx.act hy'.act
   .rw[(gD (G:=G) (st:=st) hs).2.2.1]at hqy;cases hqy
  .rw[(gD (G:=G) (st:=st) hs).2.2.1]at hqx;cases hqx
 ·
  have a2Z:(isApp y||dV y)=true:=by simp[hsy]
  rcases h1 with⟨_,d,ax,hx,rfl⟩|⟨hs,_⟩
  .rw[noq hnx]at h2;rcases h2 with⟨hq,_⟩|⟨_,⟨hw,out,ho,rfl⟩|⟨hw,rfl⟩⟩
   .rw[(gD (G:=G) (st:=st) (eC a2Z)).2.2.1]at hq;cases hq
   .rw[aY a1]at hw;cases ha:isApp y with
    |true=>
     rw[vI ha a1]at ho;obtain⟨e6p,ho0,rfl⟩:=f2M.1 ho;obtain⟨⟨e,xD⟩,_,dP,mM,b8N⟩:=wS ha ho0;refine⟨_,.inr ⟨eC a2Z,.inl ⟨hw,e6p,ho0,rfl⟩⟩,.inl ⟨hqx,d,ax,?_,?_⟩⟩
     .refine(QY.finish hqx a3).2 ?_;rw[mM];refine QY.to hx hqx rfl (λz _=>a9C z) (λ_ _ _ _=>rfl) (λ_ _ _ h=>h) (λ_ ks _ sI=>?_);exact f2Q.2 λc hc=>f2Q.1 sI c (b8N c hc)
     .simp only;rw[noq hnx,xD,dS a2 (.inr ⟨e,rfl⟩)]
    |false=>
     have hny:dV y=true:=by simpa[ha]using a2Z
     obtain⟨k,hk,⟨cs,pR,hv⟩|hv⟩:=rE (P:=P) (G:=G) hny
     .have hf:=fy hny k hk;have hfd:=hx.free hqx hf;have hf1:cA k (finish st x.dst d .no)=true:=bW hf hfd;rw[hv]at ho;cases ho;rw[bM hf1];refine⟨_,.inr ⟨eC a2Z,.inl ⟨hw,_,hv st,rfl⟩⟩,.inl ⟨hqx,d,ax,?_,?_⟩⟩
      .refine(QY.finish hqx a3).2 ?_;simp only;rw[bM hf];refine QY.to hx hqx rfl (λz _=>yQ z) (λz _ k' hm=>?_) (λ_ k' ob sW=>?_) (λ_ ks _ sI=>sI)
       .have:k≠k':=λe=>by subst e;rw[rP hf z]at hm;cases hm
        exact jG _ this _
       .have:k≠k':=λe=>by subst e;rw[yC hf]at sW;cases sW
        rw[jG _ this];exact sW
      .simp only;rw[noq hnx,bM hf, <- dS a2 (.inl rfl)];congr 1;cases x.dst<;>rfl
     .rw[hv]at ho;cases ho
   .rw[aY a1]at hw;refine⟨_,.inr ⟨eC a2Z,.inr ⟨hw,rfl⟩⟩,.inl ⟨hqx,d,ax,(QY.finish hqx a3).2 hx,?_⟩⟩;rw[noq hnx,dS a2 (.inl rfl)]
  .rw[(gD (G:=G) (st:=st) hs).2.2.1]at hqx;cases hqx
 ·
  have a3a:(isApp x||dV x)=true:=by simp[hsx]
  rcases h2 with⟨_,e,ay,hy,rfl⟩|⟨hs,_⟩
  .rcases h1 with⟨hq,_⟩|⟨_,⟨hw,out,ho,rfl⟩|⟨hw,rfl⟩⟩
   .rw[(gD (G:=G) (st:=st) (eC a3a)).2.2.1]at hq;cases hq
   .cases ha:isApp x with
    |true=>
     obtain⟨⟨k,xD⟩,_,dP,mM,b8N⟩:=wS ha ho;have hy':QY P G ops y e ay st:=by have h3:=(QY.finish hqy a1).1 hy;rw[mM]at h3;exact h3.to hqy rfl (λz _=>(a9C z).symm) (λ_ _ _ _=>rfl) (λ_ _ _ h=>h) λhc=>by rw[hcy]at hc;cases hc
     refine⟨_,.inl ⟨hqy,e,ay,hy',rfl⟩,.inr ⟨eC a3a,.inl ⟨by rw[aY a3];exact hw,⟨out.v,out.act,finish out.st y.dst e .no⟩,?_,?_⟩⟩⟩
     .rw[noq hny,vI ha a3,ho];rfl
     .simp only;rw[noq hny,xD,dS a2' (.inr ⟨k,rfl⟩)]
    |false=>
     have hnx:dV x=true:=by simpa[ha]using a3a
     obtain⟨k,hk,⟨cs,pR,hv⟩|hv⟩:=rE (P:=P) (G:=G) hnx
     .have hf:=fx hnx k hk;rw[hv]at ho;cases ho;have hy':QY P G ops y e ay st:=by
       have h3:=(QY.finish hqy a1).1 hy;simp only at h3;rw[bM hf]at h3;refine h3.to hqy rfl (λz _=>(yQ z).symm) (λz _ k' hm=>?_) (λhc=>by rw[hcy]at hc;cases hc) λhc=>by rw[hcy]at hc;cases hc
       rw[yQ]at hm;have:k≠k':=λe=>by subst e;rw[rP hf z]at hm;cases hm
       exact(jG _ this _).symm
      have hf2:cA k (finish st y.dst e .no)=true:=bW hf (hy'.free hqy hf);refine⟨_,.inl ⟨hqy,e,ay,hy',rfl⟩,.inr ⟨eC a3a,.inl ⟨by rw[aY a3];exact hw,_,hv _,?_⟩⟩⟩;simp only;rw[noq hny,bM hf,bM hf2,dS a2 (.inl rfl)];cases y.dst<;>rfl
     .rw[hv]at ho;cases ho
   .have hy':=(QY.finish hqy a1).1 hy;refine⟨_,.inl ⟨hqy,e,ay,hy',rfl⟩,.inr ⟨eC a3a,.inr ⟨by rw[aY a3];exact hw,?_⟩⟩⟩;rw[noq hny,dS a2' (.inl rfl)]
  .rw[(gD (G:=G) (st:=st) hs).2.2.1]at hqy;cases hqy
 ·
  have hss:oD y=true:=eC (by simp[c3B]);have e2D:sA ops y=false:=b4U c3B;rcases h1 with⟨_,d,ax,hx,rfl⟩|⟨hs,_⟩
  .rcases h2 with⟨hq,_⟩|⟨_,⟨hw,out,ho,rfl⟩|⟨hw,rfl⟩⟩
   .rw[(gD (G:=G) (st:=st) hss).2.2.1]at hq;cases hq
   .rw[aY a1]at hw;obtain⟨k,hk,⟨cs,pR,hv⟩|hv⟩:=rE (P:=P) (G:=G) c3B
    .have hf:=fy c3B k hk;have hfd:=hx.free hqx hf;have hf1:cA k (finish st x.dst d (a5d ops x ax))=true:=bW hf hfd;rw[hv]at ho;cases ho;rw[bM hf1];refine⟨_,.inr ⟨hss,.inl ⟨hw,_,hv st,rfl⟩⟩,.inl ⟨hqx,d,ax,?_,?_⟩⟩
     .refine(QY.finish hqx a3).2 ?_;simp only;rw[bM hf];refine QY.to hx hqx rfl (λz _=>yQ z) (λz _ k' hm=>?_) (λ_ k' ob sW=>?_) (λ_ ks _ sI=>sI)
      .have:k≠k':=λe=>by subst e;rw[rP hf z]at hm;cases hm
       exact jG _ this _
      .have:k≠k':=λe=>by subst e;rw[yC hf]at sW;cases sW
       rw[jG _ this];exact sW
     .simp only;rw[bM hf, <- wR a2 a1 a3 (by rw[e2D,Bool.and_false]) hx.act (.inl rfl)];congr 1;cases x.dst<;>rfl
    .rw[hv]at ho;cases ho
   .rw[aY a1]at hw;refine⟨_,.inr ⟨hss,.inr ⟨hw,rfl⟩⟩,.inl ⟨hqx,d,ax,(QY.finish hqx a3).2 hx,?_⟩⟩;exact wR a2 a1 a3 (by rw[e2D,Bool.and_false]) hx.act (.inl rfl)
  .rw[(gD (G:=G) (st:=st) hs).2.2.1]at hqx;cases hqx
 ·
  have hss:oD x=true:=eC (by simp[c3C]);have e2E:sA ops x=false:=b4U c3C;rcases h2 with⟨_,e,ay,hy,rfl⟩|⟨hs,_⟩
  .rcases h1 with⟨hq,_⟩|⟨_,⟨hw,out,ho,rfl⟩|⟨hw,rfl⟩⟩
   .rw[(gD (G:=G) (st:=st) hss).2.2.1]at hq;cases hq
   .obtain⟨k,hk,⟨cs,pR,hv⟩|hv⟩:=rE (P:=P) (G:=G) c3C
    .have hf:=fx c3C k hk;rw[hv]at ho;cases ho;have hy':QY P G ops y e ay st:=by
      have h3:=(QY.finish hqy a1).1 hy;simp only at h3;rw[bM hf]at h3;refine QY.to h3 hqy rfl (λz _=>(yQ z).symm) (λz _ k' hm=>?_) (λhc=>by rw[hcy]at hc;cases hc) (λhc=>by rw[hcy]at hc;cases hc);rw[yQ]at hm;have:k≠k':=λe=>by subst e;rw[rP hf z]at hm;cases hm
      exact(jG _ this _).symm
     have hf2:cA k (finish st y.dst e (a5d ops y ay))=true:=bW hf (hy'.free hqy hf);refine⟨_,.inl ⟨hqy,e,ay,hy',rfl⟩,.inr ⟨hss,.inl ⟨by rw[aY a3];exact hw,_,hv _,?_⟩⟩⟩;simp only;rw[bM hf,bM hf2,wR a2 a1 a3 (by rw[e2E,Bool.false_and]) (.inl rfl) hy'.act];cases y.dst<;>rfl
    .rw[hv]at ho;cases ho
   .have hy':=(QY.finish hqy a1).1 hy;refine⟨_,.inl ⟨hqy,e,ay,hy',rfl⟩,.inr ⟨hss,.inr ⟨by rw[aY a3];exact hw,?_⟩⟩⟩;exact wR a2 a1 a3 (by rw[e2E,Bool.false_and]) (.inl rfl) hy'.act
  .rw[(gD (G:=G) (st:=st) hs).2.2.1]at hqy;cases hqy
 ·
  have a3a:(isApp x||dV x)=true:=by simpa using hsx
  have a2Z:(isApp y||dV y)=true:=by simpa using hsy
  have nq:∀ {o:Oper},(isApp o||dV o)=true-> ¬cO o.op=true:=λh=>by rw[(gD (G:=G) (st:=st) (eC h)).2.2.1];simp
  have na:∀ {o:Oper},dV o=true->isApp o=false:=λ{o} h=>by obtain⟨dst,op,ty,pos,after,guard⟩:=o;cases op<;>first|rfl|(simp[dV]at h)
  rcases h1 with⟨hq,_⟩|⟨_,⟨hwx,out,ho,rfl⟩|⟨hwx,rfl⟩⟩
  .exact absurd hq (nq a3a)
  ·
   rcases h2 with⟨hq,_⟩|⟨_,⟨hw,e6r,ho2,rfl⟩|⟨hw,rfl⟩⟩
   .exact absurd hq (nq a2Z)
   .cases hx:dV x with
    |true=>
     obtain⟨k,hk,⟨cs,pR,hv⟩|hv⟩:=rE (P:=P) (G:=G) hx
     .have hf:=fx hx k hk;rw[hv]at ho;cases ho;rw[bM hf]at hw ho2;rw[aY a1]at hw;cases hy:dV y with
      |true=>
       obtain⟨k2,xF,⟨cs2,d8j,hv2⟩|hv2⟩:=rE (P:=P) (G:=G) hy
       .have hf2:=fy hy k2 xF;have dX:k≠k2:=λe=>a2 k hk (e▸xF);have hm:mentions k2 (.ptr k 0)=false:=by simp[mentions,dX]
        have hm2:mentions k (.ptr k2 0)=false:=by simp[mentions,Ne.symm dX]
        have g1:cA k2 (finish {st with H:=bU k cs st.H} x.dst (.ptr k 0) .no)=true:=bW (by have:=a3F dX (pR k2) hf2;rwa[bM hf]at this) hm;have g2:cA k (finish {st with H:=bU k2 cs2 st.H} y.dst (.ptr k2 0) .no)=true:=bW (by have:=a3F (Ne.symm dX) (d8j k) hf;rwa[bM hf2]at this) hm2;rw[hv2]at ho2;cases ho2;refine⟨_,.inr ⟨eC a2Z,.inl ⟨hw,_,hv2 st,rfl⟩⟩,.inr ⟨eC a3a,.inl ⟨by simp only;rw[aY a3,bM hf2];exact hwx,_,hv _,?_⟩⟩⟩;simp only;rw[bM hf2,bM g1,bM g2];have e1:({finish {st with H:=bU k cs st.H} x.dst (.ptr k 0) .no with H:=bU k2 cs2 (finish {st with H:=bU k cs st.H} x.dst (.ptr k 0) .no).H}:St)=finish {st with H:=bU k2 cs2 (bU k cs st.H)} x.dst (.ptr k 0) .no:=by cases x.dst<;>rfl
        have e2:({finish {st with H:=bU k2 cs2 st.H} y.dst (.ptr k2 0) .no with H:=bU k cs (finish {st with H:=bU k2 cs2 st.H} y.dst (.ptr k2 0) .no).H}:St)=finish {st with H:=bU k cs (bU k2 cs2 st.H)} y.dst (.ptr k2 0) .no:=by cases y.dst<;>rfl
        rw[e1,e2,b8k dX _ _ (yC hf) (yC hf2)];exact dS a2 (.inl rfl)
       .rw[hv2]at ho2;cases ho2
      |false=>
       have hay:isApp y=true:=by simpa[hy]using a2Z
       rw[vI hay a1,b8M hay]at ho2;obtain⟨o1,ho1,rfl⟩:=f2M.1 ho2;obtain⟨o0,ho0,rfl⟩:=f2M.1 ho1;obtain⟨⟨e,xD⟩,_,dP,mM,b8N⟩:=wS hay ho0;have d8k:Eff P G ops y st (finish o0.st y.dst o0.v o0.act):=.inr ⟨eC a2Z,.inl ⟨hw,o0,ho0,rfl⟩⟩;have g2:cA k (finish o0.st y.dst o0.v o0.act)=true:=sK d8k hf λh=>by rw[hy]at h;cases h
       refine⟨_,.inr ⟨eC a2Z,.inl ⟨hw,o0,ho0,rfl⟩⟩,.inr ⟨eC a3a,.inl ⟨by rw[aY a3,mM];exact hwx,_,hv _,?_⟩⟩⟩;simp only;rw[bM g2,xD,dS a2 (.inr ⟨e,rfl⟩),mM];cases y.dst<;>rfl
     .rw[hv]at ho;cases ho
    |false=>
     have hax:isApp x=true:=by simpa[hx]using a3a
     have hy:dV y=true:=by simpa[hx]using hnn
     obtain⟨⟨e,xD⟩,⟨es,hvv⟩,dP,mM,b8N⟩:=wS hax ho;obtain⟨k2,xF,⟨cs2,d8j,hv2⟩|hv2⟩:=rE (P:=P) (G:=G) hy
     .have hf2:=fy hy k2 xF;have d8k:Eff P G ops x st (finish out.st x.dst out.v out.act):=.inr ⟨eC a3a,.inl ⟨hwx,out,ho,rfl⟩⟩;have g1:cA k2 (finish out.st x.dst out.v out.act)=true:=sK d8k hf2 λh=>by rw[hx]at h;cases h
      rw[aY a1,mM]at hw;rw[hv2]at ho2;cases ho2;refine⟨_,.inr ⟨eC a2Z,.inl ⟨hw,_,hv2 st,rfl⟩⟩,.inr ⟨eC a3a,.inl ⟨by simp only;rw[aY a3,bM hf2];exact hwx,⟨out.v,out.act,finish {out.st with H:=bU k2 cs2 out.st.H} y.dst (.ptr k2 0) .no⟩,?_,?_⟩⟩⟩
      .simp only;rw[bM hf2,vI hax a3,b8M hax,ho];simp only[Option.map_some,mM]
      .simp only;rw[bM g1,xD,dS a2' (.inr ⟨e,rfl⟩),mM];congr 1;cases x.dst<;>rfl
     .rw[hv2]at ho2;cases ho2
   ·
    have mM:out.st.tmps.length=out.st.tmps.length:=rfl;have hwy:dJ y ops st.tmps=some false:=by
     rw[aY a1]at hw;cases hx:dV x with
     |true=>
      obtain⟨k,hk,⟨cs,pR,hv⟩|hv⟩:=rE (P:=P) (G:=G) hx
      .rw[hv]at ho;cases ho;rw[bM (fx hx k hk)]at hw;exact hw
      .rw[hv]at ho;cases ho
     |false=>obtain⟨_,_,dP,mM,_⟩:=wS (by simpa[hx]using a3a) ho;rw[mM]at hw;exact hw
    refine⟨_,.inr ⟨eC a2Z,.inr ⟨hwy,rfl⟩⟩,.inr ⟨eC a3a,.inl ⟨by rw[aY a3];exact hwx,?_⟩⟩⟩;cases hx:dV x with
    |true=>
     obtain⟨k,hk,⟨cs,pR,hv⟩|hv⟩:=rE (P:=P) (G:=G) hx
     .have hf:=fx hx k hk;have g2:cA k (finish st y.dst (.cJ []) .no)=true:=bW hf rfl;rw[hv]at ho;cases ho;refine⟨_,hv _,?_⟩;simp only;rw[bM hf,bM g2,dS a2 (.inl rfl)];cases y.dst<;>rfl
     .rw[hv]at ho;cases ho
    |false=>
     have hax:isApp x=true:=by simpa[hx]using a3a
     obtain⟨⟨e,xD⟩,_,dP,mM,b8N⟩:=wS hax ho;refine⟨⟨out.v,out.act,finish out.st y.dst (.cJ []) .no⟩,by rw[vI hax a3,ho];rfl,?_⟩;simp only;rw[xD,dS a2' (.inr ⟨e,rfl⟩)]
  ·
   rcases h2 with⟨hq,_⟩|⟨_,⟨hw,e6r,ho2,rfl⟩|⟨hw,rfl⟩⟩
   .exact absurd hq (nq a2Z)
   .rw[aY a1]at hw;cases hy:dV y with
    |true=>
     obtain⟨k2,xF,⟨cs2,d8j,hv2⟩|hv2⟩:=rE (P:=P) (G:=G) hy
     .have hf2:=fy hy k2 xF;have g1:cA k2 (finish st x.dst (.cJ []) .no)=true:=bW hf2 rfl;rw[hv2]at ho2;cases ho2;refine⟨_,.inr ⟨eC a2Z,.inl ⟨hw,_,hv2 st,rfl⟩⟩,.inr ⟨eC a3a,.inr ⟨by simp only;rw[aY a3,bM hf2];exact hwx,?_⟩⟩⟩;simp only;rw[bM hf2,bM g1, <- dS a2 (.inl rfl)];congr 1;cases x.dst<;>rfl
     .rw[hv2]at ho2;cases ho2
    |false=>
     have hay:isApp y=true:=by simpa[hy]using a2Z
     rw[vI hay a1]at ho2;obtain⟨o0,ho0,rfl⟩:=f2M.1 ho2;obtain⟨⟨e,xD⟩,_,dP,mM,b8N⟩:=wS hay ho0;refine⟨_,.inr ⟨eC a2Z,.inl ⟨hw,o0,ho0,rfl⟩⟩,.inr ⟨eC a3a,.inr ⟨by rw[aY a3,mM];exact hwx,?_⟩⟩⟩;simp only;rw[xD,dS a2 (.inr ⟨e,rfl⟩)]
   .rw[aY a1]at hw;refine⟨_,.inr ⟨eC a2Z,.inr ⟨hw,rfl⟩⟩,.inr ⟨eC a3a,.inr ⟨by rw[aY a3];exact hwx,?_⟩⟩⟩;exact dS a2 (.inl rfl)
 ·
  obtain⟨hqx,_,_⟩:=mF (G:=G) (st:=st) hpx;obtain⟨hyd,_⟩:=a7g hsy;have hss:oD y=true:=by simp[oD,hsy]
  rcases h1 with⟨_,d,ax,hx,rfl⟩|⟨hs,_⟩
  .rw[noq hnx]at h2;rcases h2 with⟨hq,_⟩|⟨_,⟨hw,out,ho,rfl⟩|⟨hw,rfl⟩⟩
   .rw[(gD (G:=G) (st:=st) hss).2.2.1]at hq;cases hq
   .rw[aY a1]at hw;rw[b4T hsy a1]at ho;obtain⟨o0,ho0,rfl⟩:=f2M.1 ho;obtain⟨_,_,htm⟩:=c7K hsy ho0;refine⟨_,.inr ⟨hss,.inl ⟨hw,o0,ho0,rfl⟩⟩,.inl ⟨hqx,d,ax,?_,?_⟩⟩
    .rw[hyd];exact hx.pure hpx htm
    .rw[hyd,noq hnx];rfl
   .rw[aY a1]at hw;refine⟨_,.inr ⟨hss,.inr ⟨hw,rfl⟩⟩,.inl ⟨hqx,d,ax,?_,?_⟩⟩
    .rw[hyd];exact hx
    .rw[hyd,noq hnx];rfl
  .rw[(gD (G:=G) (st:=st) hs).2.2.1]at hqx;cases hqx
 ·
  obtain⟨hqy,_,_⟩:=mF (G:=G) (st:=st) hpy;obtain⟨hxd,_⟩:=a7g hsx;have hss:oD x=true:=by simp[oD,hsx]
  rcases h2 with⟨_,e,ay,hy,rfl⟩|⟨hs,_⟩
  .rcases h1 with⟨hq,_⟩|⟨_,⟨hw,out,ho,rfl⟩|⟨hw,rfl⟩⟩
   .rw[(gD (G:=G) (st:=st) hss).2.2.1]at hq;cases hq
   .obtain⟨_,_,htm⟩:=c7K hsx ho;rw[hxd]at hy;have hy':QY P G ops y e ay st:=QY.pure (st:=out.st) hy hpy htm.symm;refine⟨_,.inl ⟨hqy,e,ay,hy',rfl⟩,.inr ⟨hss,.inl ⟨by rw[aY a3];exact hw,⟨out.v,out.act,finish out.st y.dst e .no⟩,?_,?_⟩⟩⟩
    .rw[noq hny,b4T hsx a3,ho];rfl
    .rw[hxd,noq hny];rfl
   .rw[hxd]at hy;refine⟨_,.inl ⟨hqy,e,ay,hy,rfl⟩,.inr ⟨hss,.inr ⟨by rw[aY a3];exact hw,?_⟩⟩⟩;rw[hxd];rfl
  .rw[(gD (G:=G) (st:=st) hs).2.2.1]at hqy;cases hqy
def pK(ops:Array Oper)(listed:Array Bool)(st:St):Prop:=∀(j:Nat) (oj:Oper) (d:Tmp),ops[j]? =some oj->dV oj=true->listed.getD j true=false->oj.dst=some d->cA d st=true
def oM(ops:Array Oper):Prop:=∀(i j:Nat) (oi oj:Oper) (d:Tmp),ops[i]? =some oi->ops[j]? =some oj->dV oi=true->dV oj=true->oi.dst=some d->oj.dst=some d->i=j
theorem rQ{listed:Array Bool}{i j:Nat}(h:(listed.setIfInBounds i true).getD j true=false):i≠j/\listed.getD j true=false:=by
 by_cases hij:i=j
 .subst hij;exfalso;rw[f2P]at h;by_cases hl:i<listed.size
  .simp[hl]at h
  .rw[Array.getElem?_eq_none (by simpa using hl)]at h;cases h
 .exact⟨hij,by rwa[getD_set_ne true hij]at h⟩
theorem pK.step{ops:Array Oper}{listed:Array Bool}{s:St}{i:Nat}{oi:Oper}(hA:oM ops)(hi:ops[i]? =some oi)(hI:pK ops listed st)(hk:∀k,cA k st=true->(dV oi=true->oi.dst≠some k)->cA k s=true):pK ops (listed.setIfInBounds i true) s:=by intro j oj d hj hn hun hd;obtain⟨hij,e6t⟩:=rQ hun;exact hk d (hI j oj d hj hn e6t hd) λhni he=>hij (hA i j oi oj d hi hj hni hn he hd)
theorem c1R{ops:Array Oper}{Q:St->Prop}{i:Nat}{oi:Oper}(hA:oM ops)(hi:ops[i]? =some oi)(hsi:(cO oi.op=true/\kI ops oi=false)\/oD oi=true):
  ∀(fuel:Nat) (listed:Array Bool) (st s:St),eB ops listed->
   (∀j oj,ops[j]? =some oj->j≠i->listed.getD j true=false->eZ ops ops.size j i=false->oi.apart ops oj=true/\pI ops oi oj=true)->
   i∈Region.ready .any ops listed->pK ops listed st->Eff P G ops oi st s->
   b1r P G ops Q fuel (listed.setIfInBounds i true) s->b1r P G ops Q (fuel+1) listed st:=by
 intro fuel
 induction fuel with
 |zero=>
  intro listed st s _ _ hr _ hy H;refine⟨λh=>(by rw[h]at hr;cases hr),λj hj=>?_⟩;by_cases yD:j=i
  .subst yD;rw[hi];exact(dC hsi).2 ⟨s,hy,H⟩
  .have:=ready_mono hj yD;rw[H.1]at this;cases this
 |succ fuel ih=>
  intro listed st s mO a0r hr hI hy H;refine⟨λh=>(by rw[h]at hr;cases hr),λj hj=>?_⟩;by_cases yD:j=i
  .subst yD;rw[hi];exact(dC hsi).2 ⟨s,hy,H⟩
  .have h1:=H.2 j (ready_mono hj yD);obtain⟨vJ,oj,xI,cY⟩:=mem_ready.1 hj;rw[xI]at h1|-;simp only at h1|-;obtain⟨a0W,oi',b6t,a7i⟩:=mem_ready.1 hr;have a3b:eZ ops ops.size j i=false:=cS mO a0W _ _ λo ho=>by rw[xI]at ho;cases ho;exact cY
   obtain⟨xE,hpo⟩:=a0r j oj xI yD vJ a3b;have hsj:(cO oj.op=true/\kI ops oj=false)\/oD oj=true:=by
    by_cases hs:oD oj=true
    .exact .inr hs
    .refine .inl ⟨?_,?_⟩
     .unfold pI at hpo;simp only[oD,f2Z,f2N,Bool.not_eq_true']at hpo hs;rcases hpo with((((((h|h)|h)|h)|h)|h)|h)|h
      .exact h.1.2
      .exact absurd (.inl (.inl h.1.2)) hs
      .exact h.1.1.2
      .exact absurd (.inl (.inr h.2)) hs
      .exact h.1.2
      .exact absurd (.inl h.1.2) hs
      .exact absurd (.inr h.2) hs
      .exact(mF (G:=G) (st:=st) h.1.2).1
     .cases hx:kI ops oj with
      |false=>rfl
      |true=>
       have aI:i<ops.size:=(f2W.1 hi).1;rcases sZ hx xI aI (λe=>yD e.symm)with h'|h'
       .have:=cS mO vJ ops.size i λo ho=>by rw[b6t]at ho;cases ho;exact a7i
        rw[h']at this;cases this
       .rw[a3b]at h';cases h'
   obtain⟨s12,hu,hk⟩:=(dC hsj).1 h1;obtain⟨s2,e1,e2⟩:=a7h xE hpo (λhn d hd=>hI i oi d hi hn a0W hd) (λhn d hd=>hI j oj d xI hn vJ hd) hy hu;refine(dC hsj).2 ⟨s2,e1,?_⟩;refine ih (listed.setIfInBounds j true) s2 s12 (mO.set hj) (λk ok hk' hki hun sI=>?_) (ready_mono hr (Ne.symm yD)) (hI.step hA xI λk hf hn=>sK e1 hf hn) e2 ?_
   .exact a0r k ok hk' hki (rQ hun).2 sI
   .rw[Array.setIfInBounds_comm _ _ yD];exact hk
theorem b1v{o:Oper}{k:Nat}{t:TypeId}{m kk v:Operand}(ho:o.op=.mapUpdate t m kk v)(hf:cA k st=true)(h:jT P G o st=some out):cA k out.st=true/\mentions k out.v=false:=by
 obtain⟨h1,h2,h3⟩:=kJ hf;simp only[jT,ho,yY]at h;split at h
 .rename_i key _ _ hm _ _;split at h
  .obtain⟨es,_,rfl⟩:=f2M.1 h;refine⟨zG h1 (λp hp=>?_) h3,rfl⟩;rcases a3E hp with rfl|hp
   .exact⟨λe=>by have:=rP (G:=G) hf m;rw[hm]at this;simp only[mentions,beq_eq_false_iff_ne,ne_eq]at this;exact this e,rfl⟩
   .exact h2 p hp
  .cases h
 .cases h
theorem b4V{all:Array Oper}{o:Oper}{K:St->Prop}(dX:eA all≠[])(ht:c5d all o=true)(h:mE P G true all o K st):mE P G true all o (λs=>K s/\∀k,cA k st=true->(dV o=true->o.dst≠some k)->cA k s=true) st:=by
 unfold c5d at ht;have hsq:qN true all o=true:=by
  cases hk:eA all with
  |nil=>exact absurd hk dX
  |cons k r=>simp[qN,hk]
 by_cases hs:oD o=true
 .obtain⟨s,h1,h2⟩:=(dC (.inr hs)).1 h;exact(dC (.inr hs)).2 ⟨s,h1,h2,λk hf hn=>sK h1 hf hn⟩
 .unfold mE at h|-;split
  .rename_i hw;rw[hw]at h;simp only at h;split
   .rename_i f ds hc;rw[hc]at h;rcases h with⟨r,own,h1,h3,h2⟩|⟨h0,s',h1,h2⟩
    .exact .inl ⟨r,own,h1,λ_=>h3 (by trivial),h2,λk hf _=>bW hf (yB (h3 (by trivial)))⟩
    .rw[hsq]at h0;cases h0
   .rename_i hc;rw[hc]at h;simp only at h;split
    .rename_i f f2L hch;rw[hch]at h;simp only[a0p]at h|-;rw[hsq]at h|-;simp only[if_true]at h|-;obtain⟨d,ks,h1,h2⟩:=h;exact⟨d,ks,h1,h2,λk hf _=>bW hf (yB h1.2.2.2.2)⟩
    .rename_i hch;rw[hch]at h;simp only at h;split
     .rename_i out ho;rw[ho]at h;refine⟨h,λk hf _=>?_⟩;have b4W:cA k out.st=true/\mentions k out.v=false:=by
       simp only[oD,f2Z]at ht hs;rcases ht with((hq|ha)|hn)|mM
       .rw[b8F hq ho];exact⟨hf,b8L hq hf ho⟩
       .exact absurd (.inl (.inl ha)) hs
       .exact absurd (.inl (.inr hn)) hs
       .split at mM
        .rename_i mV;exact b1u mV hf ho
        .rename_i mV;exact b1v mV hf ho
        .cases mM
      exact bW b4W.1 b4W.2
     .rename_i ho;rw[ho]at h;exact h
  .rename_i hw;rw[hw]at h;exact⟨h,λk hf _=>bW hf rfl⟩
  .rename_i hw;rw[hw]at h;exact h
theorem b8O{ops:Array Oper}{Q:St->Prop}(hA:oM ops)(hT:eA ops=[]\/∀o∈ops.toList,c5d ops o=true):∀(l:List Oper) (k:Nat) (listed:Array Bool) (st:St),(∀j,l[j]? =ops[k+j]?)->eB ops listed->pK ops listed st->
  lexFrom ops l.length k listed=true->sE P G true ops l st Q->b1r P G ops Q l.length listed st
 |[],_,_,_,_,_,_,hB,h=>⟨by simpa[lexFrom]using hB,h⟩
 |o::l,k,listed,st,hl,mO,hI,hB,h=>by
  have h0:ops[k]? =some o:=by simpa using (hl 0).symm
  simp only[List.length_cons,lexFrom,f2N,h0]at hB;obtain⟨⟨hr,hf⟩,hB'⟩:=hB;have hrk:k∈Region.ready .any ops listed:=by simpa using hr
  have sB:∀s,pK ops (listed.setIfInBounds k true) s->sE P G true ops l s Q->b1r P G ops Q l.length (listed.setIfInBounds k true) s:=λs hs h=>b8O hA hT l (k+1) _ s (λj=>by have:=hl (j+1);simpa[Nat.add_assoc,Nat.add_comm 1 j]using this) (mO.set hrk) hs hB' h
  have b1h:∀j oj,ops[j]? =some oj->j≠k->listed.getD j true=false->eZ ops ops.size j k=false->o.apart ops oj=true/\pI ops o oj=true:=by intro j oj hj dX hun sI;rw[f2Q]at hf;have h1:=hf j (List.mem_range.2 (f2W.1 hj).1);simp only[hj,f2Z,beq_iff_eq,dX,false_or,hun,Bool.false_eq_true,sI,f2N]at h1;exact h1
  have only:(∀j oj,ops[j]? =some oj->j≠k->listed.getD j true=false->eZ ops ops.size j k=false->False)->b1r P G ops Q (l.length+1) listed st:=λsI=>by
   refine⟨λh'=>(by rw[h']at hrk;cases hrk),λj hj=>?_⟩;by_cases hjk:j=k
   .subst hjk;rw[h0];have b4W:mE P G true ops o (λs=>sE P G true ops l s Q/\pK ops (listed.setIfInBounds j true) s) st:=by
     by_cases hT0:eA ops=[]
     .refine eN (λs hs=>⟨hs,λi oi d hi hn _ hd=>?_⟩) h;have:d∈eA ops:=List.mem_filterMap.2 ⟨oi,by rw[Array.mem_toList_iff];exact Array.mem_of_getElem? hi,by rw[if_pos hn];exact hd⟩;rw[hT0]at this;cases this
     .have hT:=hT.resolve_left hT0;refine eN (λs hs=>⟨hs.1,hI.step hA h0 hs.2⟩) (b4V hT0 (hT o (by rw[Array.mem_toList_iff];exact Array.mem_of_getElem? h0)) h)
    exact eN (λs hs=>sB s hs.2 hs.1) b4W
   .obtain⟨vJ,oj,xI,cY⟩:=mem_ready.1 hj;have a3b:eZ ops ops.size j k=false:=cS mO (mem_ready.1 hrk).1 _ _ λo' sV=>by rw[xI]at sV;cases sV;exact cY
    exact(sI j oj xI hjk vJ a3b).elim
  by_cases hs:(cO o.op=true/\kI ops o=false)\/oD o=true
  .obtain⟨s,hd,hk⟩:=(dC hs).1 h;exact c1R hA h0 hs l.length listed st s mO (λj oj hj dX hun sI=>b1h j oj hj dX hun sI) hrk hI hd (sB _ (hI.step hA h0 λk hf hn=>sK hd hf hn) hk)
  .refine only λj oj hj dX hun sI=>?_;obtain⟨_,hpo⟩:=b1h j oj hj dX hun sI;cases hal:kI ops o with
   |true=>
    obtain⟨_,ok,rK,c7N⟩:=mem_ready.1 hrk;have c7O:eZ ops ops.size k j=false:=cS mO hun _ _ λo' sV=>by rw[rK]at sV;cases sV;exact c7N
    rcases sZ hal h0 (f2W.1 hj).1 dX with h'|h'
    .rw[sI]at h';cases h'
    .rw[c7O]at h';cases h'
   |false=>
    unfold pI at hpo;simp only[oD,f2Z,f2N,Bool.not_eq_true']at hpo hs;rcases hpo with((((((h'|h')|h')|h')|h')|h')|h')|h'
    .exact hs (.inl ⟨h'.1.1,hal⟩)
    .exact hs (.inl ⟨h'.1.1,hal⟩)
    .exact hs (.inr (.inl (.inl h'.1.1.1)))
    .exact hs (.inl ⟨h'.1,hal⟩)
    .exact hs (.inr (.inl (.inr h'.1.1)))
    .exact hs (.inr (.inl h'.1.1))
    .exact hs (.inl ⟨(mF (G:=G) (st:=st) h'.1.1).1,hal⟩)
    .exact hs (.inr (.inr h'.1.1))
theorem Rel.drew(hr:Rel P G base R μ st a w):Rel P G base R μ st a w.drew/\Step base R w R w.drew:=
 have hs:Step base R w R w.drew:=⟨(zB.refl _ _).drew,λ_ _ h=>h,λ_ _ h h'=>absurd h h',λ_ _ _=>rfl⟩
 ⟨hr.step hs (λ_ _=>rfl) (λ_ _ h h'=>absurd h h') hr.pE,hs⟩
theorem b1w{α β:Type}{f:α->Option β}:∀ {l:List α},(l.filterMap f).Nodup->∀(i j:Nat) {x y:α} {d:β},l[i]? =some x->l[j]? =some y->f x=some d->f y=some d->i=j
 |z::r,hn,i,j,x,y,d,hi,hj,hx,hy=>by
  have tl:(r.filterMap f).Nodup:=by
   rw[List.filterMap_cons]at hn;split at hn
   .exact hn
   .exact(List.nodup_cons.1 hn).2
  have no:∀ {k:Nat} {w:α},f z=some d->r[k]? =some w->f w=some d->False:=λhz hk hw=>by rw[List.filterMap_cons,hz]at hn;exact(List.nodup_cons.1 hn).1 (List.mem_filterMap.2 ⟨_,f2S hk,hw⟩)
  cases i with
  |zero=>
   simp at hi;subst hi;cases j with
   |zero=>rfl
   |succ j=>exact(no hx (by simpa using hj) hy).elim
  |succ i=>
   cases j with
   |zero=>simp at hj;subst hj;exact(no hy (by simpa using hi) hx).elim
   |succ j=>rw[b1w tl i j (by simpa using hi) (by simpa using hj) hx hy]
theorem b3R{id:Nat}{ops:Array Oper}{Q:Exit->St->Prop}(hm:P.follows .mixedOrders=true)(hB:c7H ops=true)(hF:a8z ops st=true)(h:sE P G true ops ops.toList st λs=>Q .normal s):SW P G (.region id ops true) st Q:=by
 intro base R μ a w hr;obtain⟨eK,oY⟩:=hr.drew;unfold c7H at hB;rw[f2N]at hB;obtain⟨hN,hB⟩:=hB;rw[f2Z,List.isEmpty_iff,f2N,f2Q,decide_eq_true_eq]at hN;have mem:∀ {i oi d},ops[i]? =some oi->dV oi=true->oi.dst=some d->d∈eA ops:=λhi hn hd=>List.mem_filterMap.2 ⟨_,by rw[Array.mem_toList_iff];exact Array.mem_of_getElem? hi,by rw[if_pos hn];exact hd⟩;have hA:oM ops:=λi j oi oj d hi hj hni hnj hdi hdj=>by
  rcases hN with hN|⟨_,hN⟩
  .have:=mem hi hni hdi;rw[hN]at this;cases this
  .exact b1w (l:=ops.toList) (f:=λo=>if dV o then o.dst else none) hN i j (by simpa using hi) (by simpa using hj) (by rw[if_pos hni];exact hdi) (by rw[if_pos hnj];exact hdj)
 have hI:pK ops (Array.replicate ops.size false) st:=λj oj d hj hn _ hd=>f2Q.1 hF d (mem hj hn hd);have h1:=b8O hA (hN.imp (λh=>h) (λh=>h.1)) ops.toList 0 (Array.replicate ops.size false) st (by simp) (λk hk=>by
  rcases Nat.lt_or_ge k ops.size with h'|h'
  .simp[h']at hk
  .simp[Nat.not_lt.2 h']at hk) hI (by simpa using hB) h
 rw[show ops.toList.length=ops.size by simp]at h1;exact wp_region_any hm (b0K ops.size _ st h1 base R μ a w.drew eK λs a' w' R' μ' q1 q2 q3=>⟨s,R',μ',q1,q2,oY.trans q3⟩)
theorem a2M:∀(c:Code) (st:St) (Q:Exit->St->Prop),VW P G c st Q->SW P G c st Q
 | .skip,st,Q,h=>λbase R μ a w hr=>wp_skip ⟨st,R,μ,h,hr,.refl _ _ _⟩
 | .region id ops draw,st,Q,h=>by
  unfold VW at h;cases draw with
  |true=>exact b3R (h.1 rfl).1 (h.1 rfl).2.1 (h.1 rfl).2.2 h.2
  |false=>
   replace h:=h.2
   exact λbase R μ a w hr=>wp_region_list (b6o ops _ ops.toList st _ h base R μ a w hr λs a' w' R' μ' q1 q2 q3=>⟨s,R',μ',q1,q2,q3⟩)
 | .seq x y,st,Q,h=>λbase R μ a w hr=>wp_seq (wp_mono (a2M x st _ h base R μ a w hr) λe a1 w1 ⟨s,R1,μ1,q1,q2,q3⟩=>by
   cases e with
   |normal=>exact wp_mono (a2M y s Q q1 base R1 μ1 a1 w1 q2) λe2 a2 w2 ⟨s2,R2,μ2,p1,p2,p3⟩=>⟨s2,R2,μ2,p1,p2,q3.trans p3⟩
   |_=>exact⟨s,R1,μ1,q1,q2,q3⟩)
 | .cond c x y,st,Q,h=>λbase R μ a w hr=>by
  unfold VW at h;split at h
  .rename_i t hc;refine wp_cond (hr.a1w hc) ?_;cases t
   .exact a2M y st Q h base R μ a w hr
   .exact a2M x st Q h base R μ a w hr
  .rename_i hc;obtain⟨t,ht⟩:=hr.c3u hc;refine wp_cond ht ?_;cases t
   .exact a2M y st Q h.2 base R μ a w hr
   .exact a2M x st Q h.1 base R μ a w hr
  .cases h
 | .block id c,st,Q,h=>λbase R μ a w hr=>wp_block (wp_mono (a2M c st _ h base R μ a w hr) λe a1 w1 ⟨s,R1,μ1,q1,q2,q3⟩=>by
   cases e with
   |exit id'=>
    simp only[Exit.inBlock];simp only at q1;by_cases hid:id'=id
    .rw[if_pos hid]at q1|-;exact⟨s,R1,μ1,q1,q2,q3⟩
    .rw[if_neg hid]at q1|-;exact⟨s,R1,μ1,q1,q2,q3⟩
   |_=>exact⟨s,R1,μ1,q1,q2,q3⟩)
 | .loop c,st,Q,h=>h
 | .exit id,st,Q,h=>λbase R μ a w hr=>wp_exit ⟨st,R,μ,h,hr,.refl _ _ _⟩
 | .ret,st,Q,h=>λbase R μ a w hr=>wp_ret ⟨st,R,μ,h,hr,.refl _ _ _⟩
 | .rangeFunc ..,_,_,h=>by simp[VW]at h
 | .scope c,st,Q,h=>λbase R μ a w hr=>wp_scope_straight (wp_mono (a2M c st _ h base R μ a w hr) λe a1 w1 ⟨s,R1,μ1,q1,q2,q3⟩=>by
   cases e with
   |goto l=>exact q1.elim
   |_=>exact⟨s,R1,μ1,q1,q2,q3⟩)
 | .label l,st,Q,h=>λbase R μ a w hr=>wp_label ⟨st,R,μ,h,hr,.refl _ _ _⟩
 | .goto ..,_,_,h=>by simp[VW]at h
end
end Go.VM
end
