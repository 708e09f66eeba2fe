/- Lemmas that the law of this claim needs (Z2). No condition. -/
import Derived.Test.YtjpodcmhcenjjaaGreatDoorOsa
import Derived.Deep.LoopGhost
import Derived.Orders
import Derived.Scope
set_option linter.unusedVariables false
set_option linter.unusedSimpArgs false
set_option linter.unusedSectionVars false
set_option maxRecDepth 100000
set_option maxHeartbeats 64000000
section
namespace Go.VM
open Go Go.RowKit
section
variable {P:Program} {G:GT} {st:St} {out:Out}
variable {base:cT} {R R':Nat->Nat->Prop} {μ:Nat->Nat} {a:Act} {w w':World}
theorem d7g{o:Oper}{x y:Operand}{ts:Array TypeId}(ho:o.op=.call {callee:=.builtin .max,args:=#[x,y],argTypes:=ts})(h:c8Q G x y st=some out):rL P G o st out:=by
 unfold c8Q at h;split at h
 .rename_i k a k' b hx hy;simp only[f7N]at h;subst h;refine bJ λbase R μ a w hr=>⟨_,?_,.d _ _ (.int _ _),trivial⟩;simp[execOp,ho,resolve,invoke,builtin,Builtin.max_,Builtin.max2,hr.vL hx,hr.vL hy]
 .cases h
theorem d7h{o:Oper}{x y:Operand}{ts:Array TypeId}(ho:o.op=.call {callee:=.builtin .min,args:=#[x,y],argTypes:=ts})(h:c8R G x y st=some out):rL P G o st out:=by
 unfold c8R at h;split at h
 .rename_i k a k' b hx hy;simp only[f7N]at h;subst h;refine bJ λbase R μ a w hr=>⟨_,?_,.d _ _ (.int _ _),trivial⟩;simp[execOp,ho,resolve,invoke,builtin,Builtin.min_,Builtin.min2,hr.vL hx,hr.vL hy]
 .cases h
theorem c2g{o:Oper}{b:Builtin}{args:Array Operand}{ts:Array TypeId}(ho:o.op=.call {callee:=.builtin b,args:=args,argTypes:=ts})(h:sF P G b args.toList ts.toList st=some out):rL P G o st out:=by
 obtain⟨args⟩:=args;obtain⟨ts⟩:=ts;simp only at h;unfold sF at h;split at h
 .exact d6Z ho h
 .exact c5J ho h
 .exact c5G ho rfl h
 .exact d7g ho h
 .exact d7h ho h
 .cases h
theorem b9y{o:Oper}{fn:Fn}{first captured:Array Operand}(ho:o.op=.makeFunc fn first captured)(h:a6f G fn first captured st=some out):rL P G o st out:=by
 unfold a6f at h;split at h
 .rename_i f;split at h
  .rename_i hf;simp only[f7N]at h;subst h;have hf':first=#[]:=by simpa using hf
   refine bJ λbase R μ a w hr=>⟨.func (.func f) #[] (captured.map a.eval),by simp[execOp,ho,Instr.makeFunc,hf'],?_,trivial⟩;split
   .rename_i hc;have yU:captured=#[]:=by simpa using hc
    subst yU;rw[show Array.map a.eval #[]=#[] by simp];exact .fn f
   .refine .clo f _ _ (by simp) λi c hi=>?_;rw[f7R]at hi;obtain⟨x,hx,rfl⟩:=f7G.1 hi;have:(captured.map a.eval).getD i Go.undef=a.eval x:=by
     have hx':captured[i]? =some x:=by simpa using hx
     simp[f7J,hx']
    rw[this];exact hr.eval x
  .cases h
 .cases h
theorem e2I{o:Oper}(h:mH P G o st=some out):rL P G o st out:=by
 unfold mH at h;split at h
 .exact c1Q (.inl ‹_›) h
 .exact c1Q (.inr ‹_›) h
 .exact d1C ‹_› h
 .exact b7K ‹_› h
 .exact d7e ‹_› h
 .exact b7I ‹_› h
 .exact b3H ‹_› h
 .exact d1D ‹_› h
 .exact a6j ‹_› h
 .exact b9v ‹_› h
 .exact d1I ‹_› h
 .exact e2x ‹_› h
 .exact d1K ‹_› h
 .exact c1Z ‹_› h
 .exact b9y ‹_› h
 .exact c5C ‹_› h
 .exact b6K ‹_› h
 .exact c1R ‹_› h
 .exact c8T ‹_› h
 .exact c8U ‹_› h
 .exact b6E ‹_› h
 .exact b6G ‹_› h
 .exact c8W ‹_› h
 .exact c9b ‹_› h
 .exact d1P ‹_› h
 .exact c2g ‹_› h
 .cases h
end
section
variable (P:Program) (G:GT)
def a4R:Option TypeId->OA
 |some e=>.fresh e
 |none=>.no
def Enters(f:FuncId):Prop:=∃fn,P.funcs[f]? =some fn/\fn.body.isNone=false/\(fn.name== "runtime.NumGoroutine")=false
def cR:Op->Bool
 | .move _| .assign _| .pick _ _ _| .build _ _| .buildSlice _ _ _| .load _ _| .nilCheck _| .binOp _ _ _ _ _| .unOp _ _ _| .convert _ _ _| .lookup _ _ _ _| .extract _ _| .field _ _ _| .index _ _ _| .indexAddr _ _ _| .fieldAddr _ _ _| .slice _ _ _ _ _=>true
 | .call {callee:=.value _, .. }=>true
 | .call {callee:=.builtin .len, .. }=>true
 | .call {callee:=.builtin .max, .. }=>true
 | .call {callee:=.builtin .min, .. }=>true
 |_=>false
def a1z:List Oper->List Tmp
 |[]=>[]
 |o::r=>match o.op with
  | .call {callee:=.builtin .append,args, .. }=>match args.toList with
   | .tmp i::_=>i::a1z r
   |_=>a1z r
  |_=>a1z r
def b3c:List Oper->List Tmp
 |[]=>[]
 |o::r=>match o.op,o.dst with
  | .call {callee:=.builtin .append, .. },some i=>i::b3c r
  |_,_=>b3c r
def tH(all:Array Oper)(o:Oper):Bool:=
 match o.guard,o.op,o.dst with
 |none,.move (.tmp j),some i=>j !=i&&(a1z all.toList).contains i
 |none,.assign (.tmp j),some i=>j !=i&&(b3c all.toList).contains j
 |none,.load _ (.tmp _),some i=>(a1z all.toList).contains i
 |none,.call {callee:=.value _, .. },some i=>(a1z all.toList).contains i
 |none,.buildSlice _ _ _,some i=>(a1z all.toList).contains i
 |_,_,_=>false
def a6L(all:Array Oper)(o:Oper)(act:OA):OA:=if tH all o then act else .no
def a8U(q:Bool)(all:Array Oper)(o:Oper)(_:DV)(act:OA):OA:=if q&&cR o.op then a6L all o act else act
def mA(f:FuncId)(f7F:List DV)(ls:List (Option Loc))(st:St)(dst:Option Tmp)(s':St):Prop:=
 ∀(base:cT) (R:Nat->Nat->Prop) (μ:Nat->Nat) (a:Act) (w:World) (args:Array Value),Rel P G base R μ st a w->args.size=f7F.length->(∀(i:Nat) (d:DV),f7F[i]? =some d->TV R μ w (args.getD i undef) d)->
  (∀(i:Nat) (l:Loc),ls[i]? =some (some l)->∀u,cB a w μ l=some u->u=args.getD i undef)->
  Calls P f args w λe w'=>∃v R' μ',e=.returned v/\Rel P G base R' μ' s' (a.put dst v) w'/\Step base R w R' w'
def rowsOf:List Oper->Nat->List Nat->List Nat
 |[],_,rows=>rows
 |o::r,n,rows=>Nat.rec (rowsOf r (n+1) (0::rows)) (λm _=>rowsOf r (n+1) (Nat.succ m::rows)) (o.after.toList.foldl (λacc e=>if Region.binds .any e=true/\e.on<n then acc |||((1 <<<e.on) |||rows.getD (n-1-e.on) 0) else acc) 0)
def gL(ops:Array Oper)(_ j i:Nat):Bool:=decide (j<ops.size)&&((rowsOf ops.toList 0 []).getD (ops.size-1-j) 0).testBit i
def mI(all:Array Oper)(o:Oper):Bool:=(List.range all.size).all λk=>match all[k]? with
 |some o'=>o'.dst !=o.dst||(List.range all.size).all λj=>j==k||gL all all.size j k||gL all all.size k j
 |none=>true
def d1Z(ks:List Nat):Loc->Bool
 | .c k _=> !ks.contains k
 | .t _=>true
def kW(ks:List Nat)(own:List (TypeId×List Loc)):Bool:=own.all λc=>c.2.all (d1Z ks)
def oG:DV->Bool
 | .ptr _ _=>false
 | .mp _=>false
 | .it _=>false
 | .clo _ _=>false
 | .ag _=>false
 |_=>true
def RO(f:FuncId)(f7F:List DV)(ks:List Nat)(H:List (Nat×aW))(d:DV):Prop:=
 ∀st:St,(∀k∈ks,getKey k st.H=getKey k H)->kW ks st.own=true->∀dst ls,mA P G f f7F ls st dst (finish st dst d .no)
def a1A(ro:Bool)(f:FuncId)(f7F:List DV)(ls:List (Option Loc))(dst:Option Tmp)(st:St)(K:St->Prop):Prop:=
 if ro=true then ∃d ks,(Enters P f/\RO P G f f7F ks st.H d/\kW ks st.own=true/\(ks.all λk=>(getKey k st.H).isSome)=true/\oG d=true)/\K (finish st dst d .no)
 else ∃s',(Enters P f/\mA P G f f7F ls st dst s')/\K s'
def dZ(o:Oper):Bool:=match o.op,o.dst with
 | .alloc _,some _=>true
 |_,_=>false
def eG(ops:Array Oper):List Nat:=ops.toList.filterMap λo=>if dZ o then o.dst else none
def rU(q:Bool)(all:Array Oper)(o:Oper):Bool:=q&&(!mI all o|| !(eG all).isEmpty)
def pA(q:Bool)(all:Array Oper)(o:Oper)(K:St->Prop)(st:St):Prop:=
 match eR o all st.tmps with
 |some true=>
  match mZ G o st with
  |some (f,ds)=>(∃r own,(Enters P f/\CS P G f ds r own)/\(q=true->oG r=true)/\K (finish st o.dst r (if q&& !tH all o then .no else a4R own)))\/
   (rU q all o=false/\∃s',(Enters P f/\mA P G f (ds.map .d) (kI o) st o.dst s')/\K s')
  |none=>
   match eB G o st with
   |some (f,f7F)=>a1A P G (rU q all o) f f7F (kI o) o.dst st K
   |none=>
    match mH P G o st with
    |some out=>K (finish out.st o.dst out.v (a8U q all o out.v out.act))
    |none=>False
 |some false=>K (finish st o.dst (.bY []) .no)
 |none=>False
def uL(q:Bool)(all:Array Oper):List Oper->St->(St->Prop)->Prop
 |[],st,K=>K st
 |o::rest,st,K=>pA P G q all o (λs=>uL q all rest s K) st
def a3i(o:Oper):Bool:=match o.op with
 | .call {callee:=.value _, .. }=>true
 |_=>false
def isApp(o:Oper):Bool:=match o.op with
 | .call {callee:=.builtin .append, .. }=>true
 |_=>false
def b2y(o:Oper):Bool:=match o.op,o.dst with
 | .store _ _ _,none=>true
 |_,_=>false
def a7I:Op->Bool
 | .move _| .assign _| .pick _ _ _| .nilCheck _| .binOp _ _ _ _ _| .unOp _ _ _| .convert _ _ _| .extract _ _| .field _ _ _| .index _ _ _| .indexAddr _ _ _| .fieldAddr _ _ _| .slice _ _ _ _ _=>true
 |_=>false
def pB(o:Oper):Bool:=isApp o||dZ o||b2y o
def c9e(all:Array Oper)(o:Oper):Bool:=(cR o.op||isApp o||dZ o||(match o.op with
 | .store _ _ _=>true
 | .mapUpdate _ _ _ _=>true
 |_=>false))
def qC(all:Array Oper)(x y:Oper):Bool:=(cR x.op&&cR y.op&& !(tH all x&&tH all y))||(cR x.op&&isApp y&& !tH all x)||(isApp x&&cR y.op&& !tH all y&& !a3i y)||(cR x.op&&dZ y)||(dZ x&&cR y.op&& !a3i y)||((isApp x||dZ x)&&(isApp y||dZ y)&&(dZ x||dZ y))||(a7I x.op&& !tH all x&&b2y y)||(b2y x&&a7I y.op&& !tH all y)
def sX(k:Nat):aW->Bool
 | .cells cs=>cs.all λc=> !mentions k c
 |_=>true
def cC(k:Nat)(st:St):Bool:=(st.tmps.all λv=> !mentions k v)&&(st.H.all λp=>p.1 !=k&&sX k p.2)&&(st.own.all λc=>c.2.all λl=> !l.yE k)
def b0E(ops:Array Oper)(st:St):Bool:=(eG ops).all λk=>cC k st
def lexFrom(ops:Array Oper):Nat->Nat->Array Bool->Bool
 |0,_,listed=>(Region.ready .any ops listed).isEmpty
 |fuel+1,k,listed=>(Region.ready .any ops listed).contains k&&
  (match ops[k]? with
  |none=>false
  |some oi=>
   (List.range ops.size).all λj=>j==k||listed.getD j true||gL ops ops.size j k||(match ops[j]? with
    |some oj=>oi.apart ops oj&&qC ops oi oj
    |none=>true))&&
  lexFrom ops fuel (k+1) (listed.setIfInBounds k true)
def d2a(ops:Array Oper):Bool:=((eG ops).isEmpty||(ops.toList.all (c9e ops)&&decide ((eG ops).Nodup)))&&lexFrom ops ops.size 0 (Array.replicate ops.size false)
def VW:Code->St->(Exit->St->Prop)->Prop
 | .skip,st,Q=>Q .normal st
 | .region _ ops draw,st,Q=>(draw=true->P.follows .mixedOrders=true/\d2a ops=true/\b0E ops st=true)/\uL P G draw ops ops.toList st λs=>Q .normal s
 | .seq x y,st,Q=>VW x st λe s=>match e with
  | .normal=>VW y s Q
  |e=>Q e s
 | .cond c x y,st,Q=>
  match st.eval G c with
  | .d (.bool t)=>if t then VW x st Q else VW y st Q
  | .oY=>VW x st Q/\VW y st Q
  |_=>False
 | .block id c,st,Q=>VW c st λe s=>match e with
  | .exit id'=>if id'=id then Q .normal s else Q (.exit id') s
  |e=>Q e s
 | .loop c,st,Q=>SW P G (.loop c) st Q
 | .exit id,st,Q=>Q (.exit id) st
 | .ret,st,Q=>Q .ret st
 | .label _,st,Q=>Q .normal st
 | .scope c,st,Q=>VW c st λe s=>match e with
  | .goto _=>False
  |e=>Q e s
 |_,_,_=>False
end
section
variable {P:Program} {G:GT} {st:St} {out:Out}
variable {base:cT} {R R':Nat->Nat->Prop} {μ:Nat->Nat} {a:Act} {w w':World}
theorem SW.mono{c:Code}{Q Q':Exit->St->Prop}(hq:∀e s,Q e s->Q' e s)(h:SW P G c st Q):SW P G c st Q':=λbase R μ a w hr=>wp_mono (h base R μ a w hr) λ_ _ _ ⟨st',R',μ',q,r,s⟩=>⟨st',R',μ',hq _ _ q,r,s⟩
theorem a2B(hr:Rel P G base R μ st a w){o:Oper}{all:Array Oper}{b:Bool}(h:eR o all st.tmps=some b):Region.wanted o (yielded all a.tmps)=b:=by
 unfold eR at h;unfold Region.wanted;split at h
 .rename_i hg;rw[hg];simpa using h
 .rename_i j want hg;rw[hg];simp only;unfold tP at h;unfold yielded;cases hd:(all[j]?).bind (·.dst)with
  |none=>rw[hd]at h;simp at h;subst h;rfl
  |some t=>
   rw[hd]at h;simp only[Option.bind_some]at h|-;by_cases ht:t<a.tmps.size
   .have h1:a.tmps[t]? =some a.tmps[t]:=f7Z ht;have ht':t<st.tmps.length:=by rw[<-hr.size];exact ht
    have h2:st.tmps[t]? =some st.tmps[t]:=f7L ht';have hv:=hr.tmps t _ _ h1 h2;rw[h2]at h;simp only[Option.getD_some]at h;rw[h1];generalize a.tmps[t]=v at *;generalize st.tmps[t]=d at *;cases hv with
    |undef=>cases h
    |oY=>cases h
    |d v x hx=>
     cases hx with
     |bool b'=>simp at h;subst h;cases b'<;>cases want<;>rfl
     |_=>simp at h;subst h;rfl
    |_=>simp at h;subst h;rfl
   .have h1:a.tmps[t]? =none:=Array.getElem?_eq_none (Nat.le_of_not_lt ht);have h2:st.tmps[t]? =none:=List.getElem?_eq_none (by rw[<-hr.size];exact Nat.le_of_not_lt ht);rw[h2]at h;simp at h;subst h;rw[h1]
    rfl
theorem b7Q(hr:Rel P G base R μ st a w):∀ {l:List Operand} {ds:List D},wT (l.map (st.eval G))=some ds->l.length=ds.length/\∀(i:Nat) (d:D),ds[i]? =some d->V R w ((l.map a.eval).getD i undef) d
 |[],ds,h=>by simp[wT]at h;subst h;simp
 |x::l,ds,h=>by
  simp only[List.map_cons]at h;cases hx:st.eval G x with
  |d y=>
   rw[hx]at h;simp only[wT]at h;split at h<;>simp at h;rename_i ds' hds;subst h;obtain⟨h1,h2⟩:=b7Q hr hds;refine⟨by simp[h1],λi d hi=>?_⟩;cases i with
   |zero=>simp at hi;subst hi;exact hr.kK hx
   |succ i=>simp at hi;simpa using h2 i d hi
  |_=>rw[hx]at h;simp[wT]at h
theorem c7L{o:Oper}{f:FuncId}{ds:List D}{r:DV}{own:Option TypeId}(hc:mZ G o st=some (f,ds))(qO:Enters P f/\CS P G f ds r own)(hr:Rel P G base R μ st a w){K:Act->World->Prop}{Q:Exit->Act->World->Prop}(h:∀v R' w',Rel P G base R' μ (finish st o.dst r (a4R own)) (a.put o.dst v) w'->Step base R w R' w'->K (a.put o.dst v) w'):o.wp P a w K Q:=by
 unfold mZ at hc;split at hc
 .rename_i x args ts tO;split at hc
  .rename_i f' ds' hx hds;simp at hc;obtain⟨rfl,rfl⟩:=hc;obtain⟨⟨fn,hf1,hf2,hf3⟩,qO⟩:=qO;obtain⟨hl,hv⟩:=b7Q hr hds;have a4Q:(execOp a.eval o).run P w=.ok (.enter f' (args.map a.eval)) w:=by
    have b9z: ¬fn.body=none:=λhe=>by simp[he]at hf2
    have b9A: ¬fn.name= "runtime.NumGoroutine" :=by simpa using hf3
    simp[execOp,tO,resolve,hr.b3x hx,Deferred.ofValue,invoke,callFunc,hf1,b9z,b9A]
   unfold Oper.wp;rw[a4Q]
   show Calls P f' (args.map a.eval) w _
   refine(qO w R (args.map a.eval) (hr.tQ.up hr.base) hr.pH (by simpa using hl) (λi d hi=>by have:=hv i d hi;simpa[f7J,List.getD]using this)).mono λe w' ⟨v,R',he,htv,hs,eM,ho⟩=>?_
   subst he;have hsb:Step base R w R' w':=⟨hs.below.mono hr.base,hs.mono,λb o q1 q2=>hr.base b (hs.new b o q1 q2),hs.cells⟩;have kU:=hr.step hsb hs.below.below.block hs.new eM;refine h v R' w' (kU.put (htv μ) ?_) hsb;cases own with
   |none=>trivial
   |some e=>
    have kJ:=ho e rfl;refine⟨?_,λk o' hk hsp=>?_,?_⟩
    .rcases kJ with q|⟨g,n,cap,cur,q1,q2,q3⟩
     .exact .inl q
     .exact .inr ⟨g,n,cap,cur,q1,hr.base _ q2,q3⟩
    .obtain⟨_,_,h3⟩:=hr.gY k o' hk;have h1:w.heap.size<=μ k:=kJ.a1v hsp;have h2:=h3.lt;omega
    .obtain⟨vs,rK⟩:=hr.own;refine⟨vs,rK.step hr hs.below.below.block (λb o hb q=>by
      by_cases hR:R b o
      .exact hR
      .have:=hs.new b o q hR;omega),λv' zS=>⟨λg hg hg'=>?_,λg hg hg'=>?_⟩⟩
     .have h1:w.heap.size<=g:=kJ.a1v hg;have h2:=rK.lt zS hg';omega
     .have h1:w.heap.size<=g:=kJ.a1v hg';have h2:=rK.lt zS hg;omega
  .cases hc
 .cases hc
theorem CS.forget{f:FuncId}{ds:List D}{r:DV}{own:Option TypeId}(h:CS P G f ds r own):CS P G f ds r none:=λw R args hg hR hl hv=>(h w R args hg hR hl hv).mono λe w' ⟨v,R',h1,h2,h3,h4,_⟩=>⟨v,R',h1,h2,h3,h4,λ_ he=>by cases he⟩
theorem b3J{o:Oper}{f:FuncId}{f7F:List DV}{s':St}(hc:eB G o st=some (f,f7F))(qO:Enters P f/\mA P G f f7F (kI o) st o.dst s')(hr:Rel P G base R μ st a w){K:Act->World->Prop}{Q:Exit->Act->World->Prop}(h:∀v R' μ' w',Rel P G base R' μ' s' (a.put o.dst v) w'->Step base R w R' w'->K (a.put o.dst v) w'):o.wp P a w K Q:=by
 obtain⟨⟨fn,hf1,hf2,hf3⟩,qO⟩:=qO;have b9z: ¬fn.body=none:=λhe=>by simp[he]at hf2
 have b9A: ¬fn.name= "runtime.NumGoroutine" :=by simpa using hf3
 have main:∀args:Array Value,(execOp a.eval o).run P w=.ok (.enter f args) w->args.size=f7F.length->(∀(i:Nat) (d:DV),f7F[i]? =some d->TV R μ w (args.getD i undef) d)->
   (∀(i:Nat) (l:Loc),(kI o)[i]? =some (some l)->∀u,cB a w μ l=some u->u=args.getD i undef)->o.wp P a w K Q:=λargs a4Q hl hv a6J=>by
  unfold Oper.wp;rw[a4Q]
  show Calls P f args w _
  refine(qO base R μ a w args hr hl hv a6J).mono λe w' ⟨v,R',μ',he,kU,hs⟩=>?_;subst he;exact h v R' μ' w' kU hs
 have each:∀(l:List Operand) (i:Nat) (d:DV),(l.map (st.eval G))[i]? =some d->TV R μ w ((l.map a.eval).getD i undef) d:=λl i d hi=>by
  rw[f7R]at hi;obtain⟨x,hx,rfl⟩:=f7G.1 hi;have:(l.map a.eval).getD i undef=a.eval x:=by simp[List.getD,hx]
  rw[this];exact hr.eval x
 have dI:∀(args:Array Operand) (vs:Array Value),kI o=args.toList.map a4H->∀(i:Nat) (l:Loc),(kI o)[i]? =some (some l)->∀u,cB a w μ l=some u->u=(args.map a.eval++vs).getD i undef:=λargs vs rT i l hi u hu=>by
  rw[rT,f7R]at hi;obtain⟨x,hx,hxl⟩:=f7G.1 hi;cases x with
  |tmp t=>
   simp only[a4H,f7N]at hxl;subst hxl;simp only[cB]at hu;have aE:i<args.size:=by have:=(f7I.1 hx).1;simpa using this
   have he:args[i]? =some (.tmp t):=by simpa using hx
   rw[f7J,Array.getElem?_append_left (by simpa using aE),Array.getElem?_map,he];simp[Act.eval,hu]
  |_=>cases hxl
 unfold eB at hc;split at hc
 .rename_i x args ts tO;have rT:kI o=args.toList.map a4H:=by simp[kI,tO]
  split at hc
  .rename_i f' hx;simp at hc;obtain⟨rfl,rfl⟩:=hc;refine main (args.map a.eval) ?_ (by simp) (λi d hi=>?_) (by simpa using dI args #[] rT)
   .simp[execOp,tO,resolve,hr.b3x hx,Deferred.ofValue,invoke,callFunc,hf1,b9z,b9A]
   .have:=each args.toList i d hi;simpa[f7J,List.getD]using this
  .rename_i f' cs hx;simp at hc;obtain⟨rfl,rfl⟩:=hc;obtain⟨vs,he,rK,hvc⟩:=(hr.oT hx).a8Q;refine main (args.map a.eval++vs) ?_ (by simp[rK]) (λi d hi=>?_) (dI args vs rT)
   .simp[execOp,tO,resolve,he,Deferred.ofValue,invoke,callFunc,hf1,b9z,b9A]
   .by_cases aE:i<args.size
    .rw[f7S (by simpa using aE)]at hi;have:=each args.toList i d hi;rw[f7J,Array.getElem?_append_left (by simpa using aE)];simpa[f7J,List.getD]using this
    .rw[f7P (by simp;omega)]at hi;simp only[List.length_map,Array.length_toList]at hi;have:=hvc _ d hi;rw[f7J,Array.getElem?_append_right (by simp;omega)];simpa[f7J]using this
  .cases hc
 .cases hc
theorem c5L{P:Program}{G:GT}{st:St}{q:Bool}{all:Array Oper}{o:Oper}{out:Out}(_:mH P G o st=some out):a8U q all o out.v out.act=.no\/a8U q all o out.v out.act=out.act:=by
 unfold a8U a6L;split
 .split
  .exact .inr rfl
  .exact .inl rfl
 .exact .inr rfl
theorem c2h:∀ {l:List DV} {ds:List D},wT l=some ds->l=ds.map .d
 |[],ds,h=>by simp[wT]at h;subst h;rfl
 | .d x::l,ds,h=>by
  simp only[wT]at h;split at h
  .rename_i ds' hd;simp at h;subst h;rw[c2h hd];rfl
  .cases h
 | .undef::_,_,h=>by simp[wT]at h
 | .ptr _ _::_,_,h=>by simp[wT]at h
 | .ep _::_,_,h=>by simp[wT]at h
 | .mp _::_,_,h=>by simp[wT]at h
 | .it _::_,_,h=>by simp[wT]at h
 | .bY _::_,_,h=>by simp[wT]at h
 | .fn _::_,_,h=>by simp[wT]at h
 | .oY::_,_,h=>by simp[wT]at h
 | .yC _::_,_,h=>by simp[wT]at h
 | .clo _ _::_,_,h=>by simp[wT]at h
 | .ag _::_,_,h=>by simp[wT]at h
theorem c5M{o:Oper}{f:FuncId}{ds:List D}(h:mZ G o st=some (f,ds)):eB G o st=some (f,ds.map .d):=by
 unfold mZ at h;unfold eB;split at h
 .rename_i x args ts tO;split at h
  .rename_i f' ds' hx hds;simp at h;obtain⟨rfl,rfl⟩:=h;simp only[tO,hx];rw[c2h hds]
  .cases h
 .cases h
theorem uA{q:Bool}{all:Array Oper}{o:Oper}{K:St->Prop}{Q:Exit->Act->World->Prop}{KK:Act->World->Prop}(h:pA P G q all o K st)(hr:Rel P G base R μ st a w)(hk:∀s v w' R' μ',K s->Rel P G base R' μ' s (a.put o.dst v) w'->Step base R w R' w'->KK (a.put o.dst v) w'):
  if Region.wanted o (yielded all a.tmps) then o.wp P a w KK Q\/(o.asks P a w/\LetsOut Q) else KK (a.put o.dst Go.undef) w:=by
 unfold pA at h;split at h
 .rename_i hw;rw[a2B hr hw,if_pos rfl];refine .inl ?_;split at h
  .rename_i f ds hc;rcases h with⟨r,own,qO,_,h⟩|⟨_,s',qO,h⟩
   .generalize (q&& !tH all o)=qn at h;cases qn with
    |true=>exact c7L hc ⟨qO.1,qO.2.forget⟩ hr λv R1 w1 kU hs=>hk _ v w1 R1 μ h kU hs
    |false=>exact c7L hc qO hr λv R1 w1 kU hs=>hk _ v w1 R1 μ h kU hs
   .exact b3J (c5M hc) qO hr λv R1 μ1 w1 kU hs=>hk _ v w1 R1 μ1 h kU hs
  .split at h
   .rename_i f f7F yW;unfold a1A at h;split at h
    .obtain⟨d,ks,⟨h1,h2,h3,_⟩,h⟩:=h;exact b3J yW ⟨h1,h2 st (λ_ _=>rfl) h3 _ _⟩ hr λv R1 μ1 w1 kU hs=>hk _ v w1 R1 μ1 h kU hs
    .obtain⟨s',qO,h⟩:=h;exact b3J yW qO hr λv R1 μ1 w1 kU hs=>hk _ v w1 R1 μ1 h kU hs
   split at h
   .rename_i out hv;obtain⟨v,w1,R1,μ1,cZ,kU,htv,yZ,hs⟩:=e2I hv base R μ a w hr;have e7l:a4I P base R1 μ1 out.st a w1 v (a8U q all o out.v out.act):=by
     rcases c5L (q:=q) (all:=all) hv with he|he
     .rw[he];trivial
     .rw[he];exact yZ
    have hgo:=hk _ v w1 R1 μ1 h (kU.put (dst:=o.dst) htv e7l) hs;unfold Oper.wp;rcases cZ with cZ|⟨cZ,rfl⟩
    .rw[cZ];exact hgo
    .rw[cZ];exact hgo
   .cases h
 .rename_i hw;rw[a2B hr hw];simp only[Bool.false_eq_true,if_false];exact hk _ _ w R μ h (hr.put (dst:=o.dst) (v:=Go.undef) (.bY #[] [] rfl (by simp)) trivial) (.refl _ _ _)
 .cases h
theorem b9B{q:Bool}(all:Array Oper)(Q:Exit->Act->World->Prop):∀(l:List Oper) (st:St) (K:St->Prop),uL P G q all l st K->∀(base:cT) (R:Nat->Nat->Prop) (μ:Nat->Nat) (a:Act) (w:World),Rel P G base R μ st a w->
  (∀s a' w' R' μ',K s->Rel P G base R' μ' s a' w'->Step base R w R' w'->Q .normal a' w')->wpList P all Q l a w
 |[],st,K,h,base,R,μ,a,w,hr,hk=>hk st a w R μ h hr (.refl _ _ _)
 |o::rest,st,K,h,base,R,μ,a,w,hr,hk=>by unfold wpList;exact uA h hr λs v w' R' μ' h' eM qP=>b9B all Q rest s K h' base R' μ' _ w' eM λs a' w2 R2 μ2 q1 q2 q3=>hk s a' w2 R2 μ2 q1 q2 (qP.trans q3)
theorem eU{q:Bool}{all:Array Oper}{o:Oper}{K K':St->Prop}(hk:∀s,K s->K' s)(h:pA P G q all o K st):pA P G q all o K' st:=by
 unfold pA at *;split
 .rename_i hw;rw[hw]at h;simp only at h|-;split
  .rename_i f ds hc;rw[hc]at h;rcases h with⟨r,own,h1,h3,h2⟩|⟨h0,s',h1,h2⟩
   .exact .inl ⟨r,own,h1,h3,hk _ h2⟩
   .exact .inr ⟨h0,s',h1,hk _ h2⟩
  .rename_i hc;rw[hc]at h;simp only at h;split
   .rename_i f f7F yW;rw[yW]at h;simp only[a1A]at h|-;split
    .rename_i hro;rw[if_pos hro]at h;obtain⟨d,ks,h1,h2⟩:=h;exact⟨d,ks,h1,hk _ h2⟩
    .rename_i hro;rw[if_neg hro]at h;obtain⟨s',h1,h2⟩:=h;exact⟨s',h1,hk _ h2⟩
   rename_i yW;rw[yW]at h;simp only at h;split
   .rename_i out ho;rw[ho]at h;exact hk _ h
   .rename_i ho;rw[ho]at h;exact h
 .rename_i hw;rw[hw]at h;exact hk _ h
 .rename_i hw;rw[hw]at h;exact h
def QY(P:Program)(G:GT)(all:Array Oper)(o:Oper)(d:DV)(act:OA)(st:St):Prop:=
 (eR o all st.tmps=some true/\((∃f ds own,mZ G o st=some (f,ds)/\Enters P f/\CS P G f ds d own/\oG d=true/\act=a4R own)\/(mZ G o st=none/\eB G o st=none/\mH P G o st=some ⟨d,act,st⟩)\/
  (mZ G o st=none/\∃f f7F ks,eB G o st=some (f,f7F)/\Enters P f/\RO P G f f7F ks st.H d/\kW ks st.own=true/\(ks.all λk=>(getKey k st.H).isSome)=true/\oG d=true/\act=.no)))\/(eR o all st.tmps=some false/\d=.bY []/\act=.no)
theorem b7S{o:Oper}(hq:cR o.op=true){st':St}(he:∀x∈o.op.operands,st'.eval G x=st.eval G x)(hH:∀x∈o.op.operands,∀k,mentions k (st.eval G x)=true->getKey k st'.H=getKey k st.H):mH P G o st'=(mH P G o st).map λout=>⟨out.v,out.act,st'⟩:=by
 obtain⟨dst,op,ty,pos,after,guard⟩:=o;have parts:∀ps:List (Nat×Operand),(∀x∈ps.map (·.2),st'.eval G x=st.eval G x)->a2b G st' ps=a2b G st ps:=by
  intro ps
  induction ps with
  |nil=>intro _;rfl
  |cons p ps ih=>intro hp;obtain⟨i,x⟩:=p;unfold a2b;rw[hp x (by simp),ih λy hy=>hp y (by simp at hy|-;exact .inr hy)]
 have e2J:∀ps:List (Nat×Operand),(∀x∈ps.map (·.2),st'.eval G x=st.eval G x)->yX G st' ps=yX G st ps:=by
  intro ps
  induction ps with
  |nil=>intro _;rfl
  |cons p ps ih=>intro hp;obtain⟨i,x⟩:=p;unfold yX;rw[hp x (by simp),ih λy hy=>hp y (by simp at hy|-;exact .inr hy)]
 have zO:∀(x:Option Operand) (d n:Nat),(∀y,x=some y->st'.eval G y=st.eval G y)->eW G st' x d n=eW G st x d n:=λx d n hx=>by
  cases x with
  |none=>rfl
  |some y=>simp only[eW,hx y rfl]
 cases op<;>simp only[cR]at hq<;>try cases hq
 all_goals simp only[Op.operands]at he hH
 case move x=>simp[mH,a2x,he]
 case assign x=>simp[mH,a2x,he]
 case pick c a b=>simp only[mH,b3s,he c (by simp),he a (by simp),he b (by simp)];split<;>rfl
 case build t ps=>
  simp only[mH,a7w,parts ps.toList λx hx=>he x (by simpa using hx)];split
  .split
   .simp[Option.map_map,Function.comp_def]
   .simp only[a6g,e2J ps.toList λx hx=>he x (by simpa using hx)];split
    .simp[Option.map_map,Function.comp_def]
    .rfl
  .rfl
 case buildSlice t n ps=>
  simp only[mH,sD,parts ps.toList λx hx=>he x (by simpa using hx)];split
  .split<;>rfl
  .rfl
 case load t x=>
  simp only[mH,b3t,he x (by simp)];split
  .rename_i k off hx;rw[hH x (by simp) k (by rw[hx];simp[mentions])];split
   .simp[Option.map_map,Function.comp_def]
   .rfl
  .simp[Option.map_map,Function.comp_def]
  .rfl
 case nilCheck x=>simp only[mH,uT,he x (by simp)];split<;>rfl
 case binOp op t x y u=>
  simp only[mH,b3u,a0s,c5u,he x (by simp),he y (by simp)];split
  .split<;>rfl
  .split
   .simp[Option.map_map,Function.comp_def]
   .rfl
 case unOp op t x=>
  simp only[mH,vUn,he x (by simp)];split
  .simp[Option.map_map,Function.comp_def]
  .rfl
 case convert src dst x=>
  simp only[mH,b3v,he x (by simp)];split
  .simp[Option.map_map,Function.comp_def]
  .rfl
 case lookup t m k ok=>
  simp only[mH,a6h,he m (by simp),he k (by simp)];split
  .rename_i hm _;rw[hH m (by simp) _ (by rw[hm];simp[mentions])];split
   .simp[Option.map_map,Function.comp_def]
   .rfl
  .rfl
 case extract x i=>
  simp only[mH,a0u,he x (by simp)];split
  .simp[Option.map_map,Function.comp_def]
  .rfl
 case field t x i=>
  simp only[mH,a7x,he x (by simp)];split
  .simp[Option.map_map,Function.comp_def]
  .rfl
 case index t x i=>
  simp only[mH,a7y,he x (by simp),he i (by simp)];split
  .simp[Option.map_bind,Option.map_map,Function.comp_def]
  .simp[Option.map_bind,Option.map_map,Function.comp_def]
  .rfl
 case indexAddr t x i=>
  simp only[mH,uH,he x (by simp),he i (by simp)];split
  .rw[Option.map_bind];congr 1;funext j;simp only[Function.comp];rw[Option.map_bind];congr 1;funext cs;simp only[Function.comp];split<;>rfl
  .split
   .rfl
   .simp[Option.map_map,Function.comp_def]
  .split
   .rfl
   .simp[Option.map_map,Function.comp_def]
  .rfl
 case fieldAddr t x i=>
  simp only[mH,sE,he x (by simp)];split
  .split
   .rfl
   .split<;>rfl
  .rfl
 case slice t x lo hi mx=>
  have rT:∀y,lo=some y->st'.eval G y=st.eval G y:=λy hy=>he y (by simp[hy]);have hhi:∀y,hi=some y->st'.eval G y=st.eval G y:=λy hy=>he y (by simp[hy]);have hmx:∀y,mx=some y->st'.eval G y=st.eval G y:=λy hy=>he y (by simp[hy]);simp only[mH,a7z,he x (by simp),zO lo _ _ rT,zO hi _ _ hhi];split
  .simp[Option.map_bind,Option.map_map,Function.comp_def]
  .split
   .simp[Option.map_bind,Option.map_map,Function.comp_def]
   .rfl
  .split
   .simp[Option.map_bind,Option.map_map,Function.comp_def]
   .rfl
  .rw[zO (some _) _ _ λy hy=>hmx y hy];split<;>rfl
  .rw[zO (some _) _ _ λy hy=>hmx y hy];split<;>rfl
  .rfl
 case call c=>
  obtain⟨callee,args,ts⟩:=c;cases callee with
  |value f=>simp[mH]
  |invoke r m=>simp at hq
  |builtin b=>
   have mem:∀ {x:Operand} {l:List Operand},args.toList=l->x∈l->st'.eval G x=st.eval G x:=λhl hx=>he _ (by simp only[Op.operands,Call.operands];rw[<-Array.mem_toList_iff];simp[hl,hx]);cases b<;>simp only[]at hq<;>try cases hq
   .simp only[mH,sF];split
    .rename_i x t _ heq _;have hx:st'.eval G x=st.eval G x:=mem heq (by simp);have hxm:x∈args:=by rw[<-Array.mem_toList_iff];simp[heq]
     simp only[c8P,hx];split
     .rfl
     .rfl
     .rfl
     .rename_i wN;rw[hH x (by simpa[Call.operands]using hxm) _ (by rw[wN];simp[mentions])];split<;>rfl
     .rfl
    .rename_i h1 _ _;cases h1
    .rename_i h1 _ _;cases h1
    .rename_i h1 _;cases h1
    .rename_i h1 _;cases h1
    .rfl
   .simp only[mH,sF];split
    .rename_i h1 _ _;cases h1
    .rename_i h1 _ _;cases h1
    .rename_i h1 _ _;cases h1
    .rename_i x y _ heq;have hx:st'.eval G x=st.eval G x:=mem heq (by simp);have hy:st'.eval G y=st.eval G y:=mem heq (by simp);simp only[c8Q,hx,hy];split<;>rfl
    .rename_i h1 _;cases h1
    .rfl
   .simp only[mH,sF];split
    .rename_i h1 _ _;cases h1
    .rename_i h1 _ _;cases h1
    .rename_i h1 _ _;cases h1
    .rename_i h1 _;cases h1
    .rename_i x y _ heq;have hx:st'.eval G x=st.eval G x:=mem heq (by simp);have hy:st'.eval G y=st.eval G y:=mem heq (by simp);simp only[c8R,hx,hy];split<;>rfl
    .rfl
theorem c2i{o:Oper}(hq:cR o.op=true)(h:mH P G o st=some out):out.st=st:=by have:=b7S (P:=P) (G:=G) (st:=st) (st':=st) hq (λ_ _=>rfl) (λ_ _ _ _=>rfl);rw[h]at this;simp at this;have h2:=congrArg Out.st this;simpa using h2
theorem a4S(st:St)(dst:Option Tmp)(d:DV)(act:OA):(finish st dst d act).H=st.H:=by cases dst<;>rfl
theorem c2j{dst:Option Tmp}{d:DV}{act:OA}{x:Operand}(h:∀t,dst=some t->x≠ .tmp t):(finish st dst d act).eval G x=st.eval G x:=by
 cases dst with
 |none=>rfl
 |some t=>
  cases x with
  |tmp j=>have eF:t≠j:=λe=>h t rfl (e▸rfl);simp[finish,St.eval,List.getElem?_set_ne eF]
  |_=>rfl
theorem a7J{all:Array Oper}{o:Oper}{dst:Option Tmp}{d:DV}{act:OA}(h:∀t,dst=some t->t ∉ o.looksAt all):∀x∈o.op.operands,(finish st dst d act).eval G x=st.eval G x:=λx hx=>c2j λt ht hxt=>h t ht (by subst hxt;exact List.mem_append_left _ (List.mem_filterMap.2 ⟨.tmp t,by simpa using hx,rfl⟩))
theorem bB{all:Array Oper}{o:Oper}{dst:Option Tmp}{d:DV}{act:OA}(h:∀t,dst=some t->t ∉ o.looksAt all):eR o all (finish st dst d act).tmps=eR o all st.tmps:=by
 cases dst with
 |none=>rfl
 |some t=>
  unfold eR;cases hg:o.guard with
  |none=>rfl
  |some gw=>
   obtain⟨g,want⟩:=gw;have hy:tP all (finish st (some t) d act).tmps g=tP all st.tmps g:=by
    unfold tP;cases ht:(all[g]?).bind (·.dst)with
    |none=>rfl
    |some j=>have eF:t≠j:=λe=>h t rfl (by subst e;simp[Oper.looksAt,hg,ht]);simp[finish,List.getElem?_set_ne eF]
   simp only[hy]
theorem b9C{o:Oper}{st':St}(h:∀x∈o.op.operands,st'.eval G x=st.eval G x):mZ G o st'=mZ G o st:=by
 unfold mZ;split
 .rename_i x args ts tO;rw[tO]at h;have hx:=h x (by simp[Op.operands,Call.operands]);have ha:args.toList.map (st'.eval G)=args.toList.map (st.eval G):=List.map_congr_left λy hy=>h y (by simp[Op.operands,Call.operands];exact .inr (by simpa using hy));rw[hx,ha]
 .rfl
theorem b6N{o:Oper}{st':St}(h:∀x∈o.op.operands,st'.eval G x=st.eval G x):eB G o st'=eB G o st:=by
 unfold eB;split
 .rename_i x args ts tO;rw[tO]at h;have hx:=h x (by simp[Op.operands,Call.operands]);have ha:args.toList.map (st'.eval G)=args.toList.map (st.eval G):=List.map_congr_left λy hy=>h y (by simp[Op.operands,Call.operands];exact .inr (by simpa using hy));rw[hx,ha]
 .rfl
theorem a7K(ks:List Nat)(t:Tmp)(own:List (TypeId×List Loc)):kW ks (cG (.t t) own)=kW ks own:=by
 unfold kW cG;rw[List.all_map];congr 1;funext c;simp only[Function.comp]
 induction c.2 with
 |nil=>rfl
 |cons l r ih=>
  by_cases hl:l=.t t
  .subst hl;rw[List.filter_cons_of_neg (by simp),ih]
   rfl
  .rw[List.filter_cons_of_pos (by simp[hl]),List.all_cons,List.all_cons,ih]
theorem c2k(ks:List Nat)(s:Loc)(t:Tmp)(own:List (TypeId×List Loc)):kW ks (addAlias s (.t t) own)=kW ks own:=by
 unfold kW addAlias;rw[List.all_map];congr 1;funext c;simp only[Function.comp];split
 .rw[List.all_cons];rfl
 .rfl
theorem a8V(ks:List Nat)(dst:Option Tmp)(d:DV)(act:OA):kW ks (VM.finish st dst d act).own=kW ks st.own:=by
 cases dst with
 |none=>rfl
 |some t=>
  simp only[VM.finish];cases act with
  |no=>exact a7K ks t _
  |al l=>
   simp only[dU];split
   .rfl
   .rw[c2k,a7K]
  |fresh e=>
   simp only[dU];have:=a7K ks t st.own;unfold kW at this|-;rw[List.all_cons,this]
   rfl
theorem d2b{o:Oper}{x:FuncId×List DV}(h:eB G o st=some x):a3i o=true:=by
 unfold eB at h;unfold a3i;split at h
 .rename_i tO;rw[tO]
 .cases h
theorem QY.to{all:Array Oper}{o:Oper}{d:DV}{ac:OA}{st':St}(h:QY P G all o d ac st)(hq:cR o.op=true)(hw:eR o all st'.tmps=eR o all st.tmps)(he:∀x∈o.op.operands,st'.eval G x=st.eval G x)(hH:∀x∈o.op.operands,∀k,mentions k (st.eval G x)=true->getKey k st'.H=getKey k st.H)(hk:a3i o=true->∀k o,getKey k st.H=some o->getKey k st'.H=some o)(hn:a3i o=true->∀ks,(ks.all λk=>(getKey k st.H).isSome)=true->kW ks st.own=true->kW ks st'.own=true):QY P G all o d ac st':=by
 unfold QY at h|-;rw[hw,b9C he,b6N he,b7S hq he hH];rcases h with⟨h0,h|⟨h1,h2,h3⟩|⟨h1,f,f7F,ks,h2,h3,h4,h5,h6,h7,h8⟩⟩|h
 .exact .inl ⟨h0,.inl h⟩
 .exact .inl ⟨h0,.inr (.inl ⟨h1,h2,by rw[h3];rfl⟩)⟩
 .have hv:=d2b h2;have hks:∀k∈ks,getKey k st'.H=getKey k st.H:=λk wM=>by obtain⟨ob,hob⟩:=Option.isSome_iff_exists.1 (f7K.1 h6 k wM);rw[hob];exact hk hv k ob hob
  refine .inl ⟨h0,.inr (.inr ⟨h1,f,f7F,ks,h2,h3,λs hs sG=>h4 s (λk wM=>(hs k wM).trans (hks k wM)) sG,hn hv ks h6 h5,f7K.2 λk wM=>?_,h7,h8⟩)⟩;rw[hks k wM];exact f7K.1 h6 k wM
 .exact .inr h
theorem QY.finish{all:Array Oper}{o:Oper}{d x:DV}{ac:OA}{dst:Option Tmp}{act:OA}(hq:cR o.op=true)(h:∀t,dst=some t->t ∉ o.looksAt all):QY P G all o d ac (VM.finish st dst x act)↔QY P G all o d ac st:=by
 have he:=a7J (G:=G) (st:=st) (d:=x) (act:=act) h;refine⟨λhy=>QY.to hy hq (bB h).symm (λy hy=>(he y hy).symm) (λ_ _ _ _=>by rw[a4S]) (λ_ k ob hk=>by rw[a4S]at hk;exact hk) (λ_ ks _ hn=>by rw[a8V]at hn;exact hn),
  λhy=>QY.to hy hq (bB h) he (λ_ _ _ _=>by rw[a4S]) (λ_ k ob hk=>by rw[a4S];exact hk) (λ_ ks _ hn=>by rw[a8V];exact hn)⟩
theorem c5N{all:Array Oper}{o:Oper}{K:St->Prop}(hq:cR o.op=true)(hal:mI all o=false):pA P G true all o K st↔∃d act,QY P G all o d act st/\K (finish st o.dst d (a6L all o act)):=by
 have yZ:∀d act,a8U true all o d act=a6L all o act:=λd act=>by simp[a8U,hq]
 have sG:a6L all o .no=.no:=by unfold a6L;split<;>rfl
 have hqn:∀a,a6L all o a=if true&& !tH all o then .no else a:=λa=>by unfold a6L;cases tH all o<;>rfl
 unfold pA QY;constructor
 .intro h;split at h
  .rename_i hw;rw[hw];split at h
   .rename_i f ds hc;rcases h with⟨r,own,⟨h1,h2⟩,h4,h3⟩|⟨h0,_⟩
    .exact⟨r,a4R own,.inl ⟨rfl,.inl ⟨f,ds,own,hc,h1,h2,h4 rfl,rfl⟩⟩,by rw[hqn];exact h3⟩
    .simp[rU,hal]at h0
   .rename_i hc;split at h
    .rename_i f f7F yW;simp only[a1A,rU,hal,Bool.not_false,Bool.true_or,Bool.and_self,if_true]at h;obtain⟨d,ks,⟨h1,h2,h3,h5,h6⟩,h4⟩:=h;exact⟨d,.no,.inl ⟨rfl,.inr (.inr ⟨hc,f,f7F,ks,yW,h1,h2,h3,h5,h6,rfl⟩)⟩,by rw[sG];exact h4⟩
    .rename_i yW;split at h
     .rename_i out ho;rw[yZ]at h;have hs:=c2i hq ho;obtain⟨v,act,s2⟩:=out;simp only at hs;subst hs;exact⟨v,act,.inl ⟨rfl,.inr (.inl ⟨hc,yW,ho⟩)⟩,h⟩
     .cases h
  .rename_i hw;exact⟨.bY [],.no,.inr ⟨hw,rfl,rfl⟩,by rw[sG];exact h⟩
  .cases h
 .rintro⟨d,act,(⟨hw,⟨f,ds,own,hc,h1,h2,h4,rfl⟩|⟨hc,yW,ho⟩|⟨hc,f,f7F,ks,yW,h1,h2,h3,h5,h6,rfl⟩⟩|⟨hw,rfl,rfl⟩),hk⟩
  .rw[hqn]at hk;rw[hw];simp only;rw[hc];exact .inl ⟨d,own,⟨h1,h2⟩,λ_=>h4,hk⟩
  .rw[hw];simp only;rw[hc];simp only;rw[yW];simp only;rw[ho];simp only;rw[yZ];exact hk
  .rw[sG]at hk;rw[hw];simp only;rw[hc];simp only;rw[yW];simp only[a1A,rU,hal,Bool.not_false,Bool.true_or,Bool.and_self,if_true];exact⟨d,ks,⟨h1,h2,h3,h5,h6⟩,hk⟩
  .rw[sG]at hk;rw[hw];exact hk
def b9D(all:Array Oper)(o:Oper)(a:OA):Prop:=a=.no\/(tH all o=true/\∃e,a=.fresh e)\/∃l i,o.dst=some i/\tH all o=true/\l≠ .t i/\(∀u,u ∉ o.looksAt all->l≠ .t u)/\a=.al l
theorem a1B(v:DV)(a:OA):sC v a=.no\/sC v a=a:=by
 unfold sC;split
 .exact .inr rfl
 .exact .inl rfl
theorem QY.act{all:Array Oper}{o:Oper}{d:DV}{act:OA}(h:QY P G all o d act st):b9D all o (a6L all o act):=by
 unfold a6L;split
 .rename_i hn;rcases h with⟨hw,⟨f,ds,own,hc,h1,h2,_,rfl⟩|⟨hc,yW,ho⟩|⟨hc,f,f7F,ks,yW,h1,h2,h3,_,_,rfl⟩⟩|⟨hw,rfl,rfl⟩
  .cases own with
   |none=>exact .inl rfl
   |some e=>exact .inr (.inl ⟨hn,e,rfl⟩)
  .obtain⟨dst,op,ty,pos,after,guard⟩:=o;have hn':=hn;unfold tH at hn;split at hn
   .rename_i j i hg tO hd;simp only at hg tO hd;subst hg tO hd;simp only[f7H,bne_iff_ne]at hn;have:act=sC (st.eval G (.tmp j)) (.al (.t j)):=by simp only[mH,a2x,f7N,Out.mk.injEq]at ho;exact ho.2.1.symm
    rcases a1B (st.eval G (.tmp j)) (.al (.t j))with h1|h1
    .exact .inl (this.trans h1)
    .exact .inr (.inr ⟨.t j,i,rfl,hn',λe=>hn.1 (by cases e;rfl),λu hu e=>hu (by cases e;simp[Oper.looksAt,Op.operands]),this.trans h1⟩)
   .rename_i j i hg tO hd;simp only at hg tO hd;subst hg tO hd;simp only[f7H,bne_iff_ne]at hn;have:act=sC (st.eval G (.tmp j)) (.al (.t j)):=by simp only[mH,a2x,f7N,Out.mk.injEq]at ho;exact ho.2.1.symm
    rcases a1B (st.eval G (.tmp j)) (.al (.t j))with h1|h1
    .exact .inl (this.trans h1)
    .exact .inr (.inr ⟨.t j,i,rfl,hn',λe=>hn.1 (by cases e;rfl),λu hu e=>hu (by cases e;simp[Oper.looksAt,Op.operands]),this.trans h1⟩)
   .rename_i ty' j i hg tO hd;simp only at hg tO hd;subst hg tO hd;simp only[mH,b3t]at ho;split at ho
    .rename_i k off _;split at ho
     .rename_i cs hk;obtain⟨y,_,he⟩:=f7G.1 ho;simp only[Out.mk.injEq]at he;have:act=sC y (.al (.c k off)):=he.2.1.symm;rcases a1B y (.al (.c k off))with h1|h1
      .exact .inl (this.trans h1)
      .exact .inr (.inr ⟨.c k off,i,rfl,hn',(by simp),(λu _=>by simp),this.trans h1⟩)
     .cases ho
    .obtain⟨y,_,he⟩:=f7G.1 ho;simp only[Out.mk.injEq]at he;exact .inl he.2.1.symm
    .cases ho
   .rename_i cl x i hg tO hd;simp only at hg tO hd;subst hg tO hd;simp[mH]at ho
   .rename_i t n ps i hg tO hd;simp only at hg tO hd;subst hg tO hd;simp only[mH,sD]at ho;split at ho
    .split at ho
     .simp only[f7N,Out.mk.injEq]at ho;exact .inr (.inl ⟨hn',_,ho.2.1.symm⟩)
     .cases ho
    .cases ho
   .cases hn
  .exact .inl rfl
  .exact .inl rfl
 .exact .inl rfl
theorem qD(x y:Loc)(own:List (TypeId×List Loc)):cG x (cG y own)=cG y (cG x own):=by simp only[cG,List.map_map];refine List.map_congr_left λc _=>?_;simp only[Function.comp,List.filter_filter];congr 1;refine List.filter_congr λl _=>?_;rw[Bool.and_comm]
theorem a6V{x l:Loc}(h:l≠x)(c:List Loc):(c.filter λy=>decide (y≠x)).contains l=c.contains l:=by rw[Bool.eq_iff_iff];simp only[List.contains_iff_mem,List.mem_filter,decide_eq_true_eq];exact⟨λh=>h.1,λh'=>⟨h',h⟩⟩
theorem b3K{s t x:Loc}(h1:s≠x)(h2:t≠x)(own:List (TypeId×List Loc)):addAlias s t (cG x own)=cG x (addAlias s t own):=by
 simp only[addAlias,cG,List.map_map];refine List.map_congr_left λc _=>?_;simp only[Function.comp,a6V h1];split
 .simp[h2]
 .rfl
theorem c2l{l:Loc}{t u:Tmp}(h1:t≠u)(h2:l≠ .t u)(h3:l≠ .t t)(own:List (TypeId×List Loc)):dU (.t u) .no (dU (.t t) (.al l) own)=dU (.t t) (.al l) (dU (.t u) .no own):=by have ht:(.t t:Loc)≠ .t u:=λe=>h1 (by cases e;rfl);simp only[dU];rw[if_neg h3,if_neg h3, <- b3K h2 ht,qD]
theorem a7L{e:TypeId}{t u:Tmp}(h1:t≠u)(own:List (TypeId×List Loc)):dU (.t u) .no (dU (.t t) (.fresh e) own)=dU (.t t) (.fresh e) (dU (.t u) .no own):=by have ht:(.t t:Loc)≠ .t u:=λe=>h1 (by cases e;rfl);simp only[dU];rw[qD (.t t)];simp[cG,ht]
theorem yI{all:Array Oper}{x y:Oper}{d e:DV}{ax ay:OA}(h:∀t,x.dst=some t->y.dst≠some t)(hx:∀t,x.dst=some t->t ∉ y.looksAt all)(hy:∀t,y.dst=some t->t ∉ x.looksAt all)(hn:(tH all x&&tH all y)=false)(sx:b9D all x ax)(sy:b9D all y ay):
  finish (finish st x.dst d ax) y.dst e ay=finish (finish st y.dst e ay) x.dst d ax:=by
 cases hxd:x.dst with
 |none=>cases y.dst<;>rfl
 |some t=>
  cases hyd:y.dst with
  |none=>rfl
  |some u=>
   have eF:t≠u:=λhe=>h t hxd (he▸hyd);simp only[finish];rw[List.set_comm _ _ eF];congr 1;rcases sx with rfl|⟨q2,e,rfl⟩|⟨l,i,q1,q2,q3,q4,rfl⟩
   .rcases sy with rfl|⟨q2,e,rfl⟩|⟨l,i,q1,q2,q3,q4,rfl⟩
    .exact qD _ _ _
    .exact(a7L (Ne.symm eF) _).symm
    .rw[hyd]at q1;cases q1;exact(c2l (Ne.symm eF) (q4 t (hx t hxd)) q3 _).symm
   .rcases sy with rfl|⟨p2,e',rfl⟩|⟨l',i',p1,p2,p3,p4,rfl⟩
    .exact a7L eF _
    .rw[q2,p2]at hn;cases hn
    .rw[q2,p2]at hn;cases hn
   .rw[hxd]at q1;cases q1;rcases sy with rfl|⟨p2,e',rfl⟩|⟨l',i',p1,p2,p3,p4,rfl⟩
    .exact c2l eF (q4 u (hy u hyd)) q3 _
    .rw[q2,p2]at hn;cases hn
    .rw[q2,p2]at hn;cases hn
def b3L(P:Program)(G:GT)(ops:Array Oper)(Q:St->Prop):Nat->Array Bool->St->Prop
 |0,listed,st=>Region.ready .any ops listed=[]/\Q st
 |fuel+1,listed,st=>(Region.ready .any ops listed=[]->Q st)/\∀i∈Region.ready .any ops listed,match ops[i]? with
  |none=>b3L P G ops Q fuel (listed.setIfInBounds i true) st
  |some o=>pA P G true ops o (b3L P G ops Q fuel (listed.setIfInBounds i true)) st
theorem b3e{ops:Array Oper}{Q:St->Prop}{QQ:Exit->Act->World->Prop}:∀(fuel:Nat) (listed:Array Bool) (st:St),b3L P G ops Q fuel listed st->∀(base:cT) (R:Nat->Nat->Prop) (μ:Nat->Nat) (a:Act) (w:World),Rel P G base R μ st a w->
  (∀s a' w' R' μ',Q s->Rel P G base R' μ' s a' w'->Step base R w R' w'->QQ .normal a' w')->wpAny P .any ops QQ fuel listed a w
 |0,_,st,h,base,R,μ,a,w,hr,hk=>⟨h.1,hk st a w R μ h.2 hr (.refl _ _ _)⟩
 |fuel+1,listed,st,h,base,R,μ,a,w,hr,hk=>by
  refine⟨λh0=>hk st a w R μ (h.1 h0) hr (.refl _ _ _),λi hi=>?_⟩;have h1:=h.2 i hi;unfold wpOp;split
  .rename_i ho;rw[ho]at h1;exact b3e fuel _ st h1 base R μ a w hr hk
  .rename_i o ho;rw[ho]at h1;exact uA h1 hr λs v w' R' μ' h' eM qP=>b3e fuel _ s h' base R' μ' _ w' eM λs a' w2 R2 μ2 q1 q2 q3=>hk s a' w2 R2 μ2 q1 q2 (qP.trans q3)
def eH(ops:Array Oper)(listed:Array Bool):Prop:=∀k,listed.getD k false=true->∀o,ops[k]? =some o->∀e∈o.after,Region.binds .any e=true->listed.getD e.on false=true
theorem d7j{listed:Array Bool}{i:Nat}(h0:listed.getD i true=false)(h1:listed.getD i false=true):False:=by
 rcases Nat.lt_or_ge i listed.size with h'|h'
 .simp[h']at h0 h1;rw[h0]at h1;cases h1
 .simp[Array.getElem?_eq_none h']at h1
theorem d2c{es:List Edge}{n i:Nat}{rows:List Nat}:∀(acc:Nat),(es.foldl (λacc e=>if Region.binds .any e=true/\e.on<n then acc |||((1 <<<e.on) |||rows.getD (n-1-e.on) 0) else acc) acc).testBit i=true->
  acc.testBit i=true\/∃e∈es,Region.binds .any e=true/\e.on<n/\(e.on=i\/(rows.getD (n-1-e.on) 0).testBit i=true):=by
 induction es with
 |nil=>intro acc h;exact .inl h
 |cons e es ih=>
  intro acc h;simp only[List.foldl_cons]at h;rcases ih _ h with h|⟨e',h1,h2⟩
  .split at h
   .rename_i hb;rw[Nat.testBit_or,f7T,Nat.testBit_or,f7T]at h;rcases h with h|h|h
    .exact .inl h
    .rw[Nat.testBit_shiftLeft]at h;simp only[f7H,decide_eq_true_eq]at h;have:i-e.on=0:=by
      have h2:=h.2;cases hx:i-e.on with
      |zero=>rfl
      |succ m=>rw[hx,Nat.testBit_succ]at h2;simp at h2
     exact .inr ⟨e,.head _,hb.1,hb.2,.inl (by omega)⟩
    .exact .inr ⟨e,.head _,hb.1,hb.2,.inr h⟩
   .exact .inl h
  .exact .inr ⟨e',.tail _ h1,h2⟩
theorem c9h(o:Oper)(r:List Oper)(n:Nat)(rows:List Nat):rowsOf (o::r) n rows=rowsOf r (n+1) ((o.after.toList.foldl (λacc e=>if Region.binds .any e=true/\e.on<n then acc |||((1 <<<e.on) |||rows.getD (n-1-e.on) 0) else acc) 0)::rows):=by rw[rowsOf];generalize (o.after.toList.foldl (λacc e=>if Region.binds .any e=true/\e.on<n then acc |||((1 <<<e.on) |||rows.getD (n-1-e.on) 0) else acc) 0)=m;cases m<;>rfl
theorem b3M{ops:Array Oper}{i:Nat}:∀(l:List Oper) (n:Nat) (rows:List Nat),rows.length=n->(∀j,l[j]? =ops[n+j]?)->
  (∀k,k<n->(rows.getD (n-1-k) 0).testBit i=true->∃o,ops[k]? =some o/\∃e∈o.after,Region.binds .any e=true/\(e.on=i\/(e.on<k/\(rows.getD (n-1-e.on) 0).testBit i=true)))->
  ∀k,k<n+l.length->((rowsOf l n rows).getD (n+l.length-1-k) 0).testBit i=true->∃o,ops[k]? =some o/\∃e∈o.after,Region.binds .any e=true/\(e.on=i\/(e.on<k/\((rowsOf l n rows).getD (n+l.length-1-e.on) 0).testBit i=true))
 |[],n,rows,_,_,h=>h
 |o::r,n,rows,hlen,hl,h=>by
  rw[c9h];generalize oU:(o.after.toList.foldl (λacc e=>if Region.binds .any e=true/\e.on<n then acc |||((1 <<<e.on) |||rows.getD (n-1-e.on) 0) else acc) 0)=row;have hlc:n+(o::r).length=(n+1)+r.length:=by simp;omega
  rw[hlc];have old:∀m,m<n->(row::rows).getD (n+1-1-m) 0=rows.getD (n-1-m) 0:=λm hm=>by
   have:n+1-1-m=(n-1-m)+1:=by omega
   rw[this];rfl
  refine b3M r (n+1) (row::rows) (by simp[hlen]) (λj=>by have:=hl (j+1);simpa[Nat.add_assoc,Nat.add_comm 1 j]using this) λk hk hb=>?_;by_cases hkn:k<n
  .rw[old k hkn]at hb;obtain⟨o1,h1,e,h2,h3,h4⟩:=h k hkn hb;refine⟨o1,h1,e,h2,h3,?_⟩;rcases h4 with h4|⟨h4,h5⟩
   .exact .inl h4
   .exact .inr ⟨h4,by rw[old e.on (by omega)];exact h5⟩
  .have:k=n:=by omega
   subst this;have h0:k+1-1-k=0:=by omega
   rw[h0]at hb;simp only[List.getD_cons_zero]at hb;rw[<-oU]at hb;rcases d2c 0 hb with hz|⟨e,h1,h2,h3,h4⟩
   .simp at hz
   .refine⟨o,by simpa using (hl 0).symm,e,by simpa using h1,h2,?_⟩;rcases h4 with h4|h4
    .exact .inl h4
    .exact .inr ⟨h3,by rw[old e.on h3];exact h4⟩
theorem cV{ops:Array Oper}{listed:Array Bool}{i:Nat}(hc:eH ops listed)(hi:listed.getD i true=false)(n:Nat):∀(k:Nat),(∀o,ops[k]? =some o->∀e∈o.after,Region.binds .any e=true->listed.getD e.on false=true)->gL ops n k i=false:=by
 intro k
 induction k using Nat.strongRecOn with
 |_ k ih=>
  intro hk;cases hb:gL ops n k i with
  |false=>rfl
  |true=>
   unfold gL at hb;rw[f7H,decide_eq_true_eq]at hb;obtain⟨aE,hb⟩:=hb;have jG:0+ops.toList.length=ops.size:=by simp
   obtain⟨o,ho,e,he,hbd,h⟩:=b3M (ops:=ops) ops.toList 0 [] rfl (by simp) (λk hk=>absurd hk (Nat.not_lt_zero _)) k (by omega) (by rw[jG];exact hb);have h1:=hk o ho e he hbd;rcases h with h|⟨h2,h3⟩
   .exact(d7j hi (h▸h1)).elim
   .have:=ih e.on h2 λo' uI=>hc e.on h1 o' uI;unfold gL at this;rw[jG]at h3;rw[h3,Bool.and_true,decide_eq_false_iff_not]at this;exact absurd (Nat.lt_trans h2 aE) this
theorem eH.set{ops:Array Oper}{listed:Array Bool}{j:Nat}(hc:eH ops listed)(hj:j∈Region.ready .any ops listed):eH ops (listed.setIfInBounds j true):=by
 intro k hk o ho e he hb;by_cases hjk:j=k
 .subst hjk;obtain⟨_,o',uI,dB⟩:=mem_ready.1 hj;rw[ho]at uI;cases uI;exact getD_set_true (dB e he hb)
 .rw[getD_set_ne false hjk]at hk;exact getD_set_true (hc k hk o ho e he hb)
theorem uM{ops:Array Oper}{o:Oper}{k j:Nat}(h:mI ops o=true)(hk:ops[k]? =some o)(hj:j<ops.size)(eF:j≠k):gL ops ops.size j k=true\/gL ops ops.size k j=true:=by have h1:=f7K.1 h k (List.mem_range.2 (f7Q.1 hk).1);simp only[hk,bne_self_eq_false,Bool.false_or]at h1;have h2:=f7K.1 h1 j (List.mem_range.2 hj);simpa[eF,or_assoc]using h2
theorem zT{k:Nat}{d:DV}(h:oG d=true):mentions k d=false:=by cases d<;>first|rfl|cases h
theorem b9E(k:Nat)(v:Value):mentions k (ofConst v)=false:=by
 unfold ofConst;split
 .split<;>rfl
 .split<;>rfl
theorem mJ{k:Nat}(h:cC k st=true):(∀v∈st.tmps,mentions k v=false)/\(∀p∈st.H,p.1≠k/\sX k p.2=true)/\(∀c∈st.own,∀l∈c.2,l.yE k=false):=by unfold cC at h;simp only[f7H,f7K,bne_iff_ne,ne_eq,Bool.not_eq_true']at h;exact⟨h.1.1,h.1.2,h.2⟩
theorem a0G{k:Nat}(h1:∀v∈st.tmps,mentions k v=false)(h2:∀p∈st.H,p.1≠k/\sX k p.2=true)(h3:∀c∈st.own,∀l∈c.2,l.yE k=false):cC k st=true:=by unfold cC;simp only[f7H,f7K,bne_iff_ne,ne_eq,Bool.not_eq_true'];exact⟨⟨h1,h2⟩,h3⟩
theorem sY{k:Nat}(h:cC k st=true)(x:Operand):mentions k (st.eval G x)=false:=by
 cases x with
 |tmp t=>
  simp only[St.eval,List.getD];cases ht:st.tmps[t]? with
  |none=>rfl
  |some v=>exact(mJ h).1 v (f7M ht)
 |const v=>exact b9E k v
 |global g=>simp only[St.eval];split<;>rfl
 |func f=>rfl
theorem a4T{k:Nat}{o:aW}:∀ {H:List (Nat×aW)},getKey k H=some o->(k,o)∈H
 |[],h=>by simp[getKey]at h
 |(k',o')::r,h=>by
  unfold getKey at h;split at h
  .rename_i he;cases h;subst he;exact .head _
  .exact .tail _ (a4T h)
theorem zU{k:Nat}(h:cC k st=true):getKey k st.H=none:=by
 cases hk:getKey k st.H with
 |none=>rfl
 |some o=>exact absurd rfl ((mJ h).2.1 _ (a4T hk)).1
theorem c2m{k k':Nat}{cs:List DV}(h:cC k st=true)(hk:getKey k' st.H=some (.cells cs)):∀c∈cs,mentions k c=false:=λc hc=>by have:=((mJ h).2.1 _ (a4T hk)).2;simp only[sX,f7K,Bool.not_eq_true']at this;exact this c hc
theorem c5O{k:Nat}{t:TypeId}{cs:List DV}{y:DV}(hc:∀c∈cs,mentions k c=false)(h:b1o P t cs=some y):mentions k y=false:=by
 unfold b1o at h;split at h
 .split at h
  .split at h
   .rcases b1q h with⟨ds,_,rfl⟩|⟨_,rfl⟩
    .rfl
    .exact a4e λc yU=>hc c (List.mem_of_mem_take yU)
   .cases h
  .exact hc y (List.mem_of_head? h)
 .cases h
where
 a4e {k:Nat}:∀ {cs:List DV},(∀c∈cs,mentions k c=false)->mN k cs=false
  |[],_=>rfl
  |c::r,h=>by simp only[mN,h c (.head _),a4e λx hx=>h x (.tail _ hx),Bool.or_false]
theorem a4U{k:Nat}:∀ {cs:List DV},(∀c∈cs,mentions k c=false)->mN k cs=false
 |[],_=>rfl
 |c::r,h=>by simp only[mN,h c (.head _),a4U λx hx=>h x (.tail _ hx),Bool.or_false]
theorem b1w{k:Nat}{d:DV}{cs:List DV}(h:mentions k d=false)(hc:uE d=some cs):∀c∈cs,mentions k c=false:=by
 cases d with
 |d y=>cases hc;intro c hc;obtain⟨z,_,rfl⟩:=List.mem_map.1 hc;rfl
 |ag uJ=>obtain⟨_,rfl⟩:=b0A hc;intro c hc;obtain⟨i,hi⟩:=f7Y hc;exact rS (by simpa[mentions]using h) i c hi
 |undef=>cases hc
 |it _=>cases hc
 |bY _=>cases hc
 |yC _=>cases hc
 |_=>cases hc;intro c hc;simp only[f7O]at hc;subst hc;exact h
theorem b1x{k:Nat}(h:cC k st=true):∀ {l:List (Nat×Operand)} {ps:List (Nat×List DV)},yX G st l=some ps->∀p∈ps,∀c∈p.2,mentions k c=false
 |[],ps,hp=>by simp[yX]at hp;subst hp;simp
 |(i,x)::l,ps,hp=>by
  simp only[yX]at hp;split at hp
  .rename_i y ds hy hds;simp at hp;subst hp;intro p hpm;rcases List.mem_cons.1 hpm with rfl|hpm
   .exact b1w (sY h x) hy
   .exact b1x h hds p hpm
  .cases hp
theorem b7T{k:Nat}{cs ys:List DV}{off:Nat}(h1:∀c∈cs,mentions k c=false)(h2:∀c∈ys,mentions k c=false):∀c∈overwrite cs off ys,mentions k c=false:=λc hc=>by
 unfold overwrite at hc;simp only[List.mem_append]at hc;rcases hc with(hc|hc)|hc
 .exact h1 c (List.mem_of_mem_take hc)
 .exact h2 c hc
 .exact h1 c (List.mem_of_mem_drop hc)
theorem b3N{k:Nat}{t:TypeId}:∀ {ps:List (Nat×List DV)} {z r:List DV},(∀c∈z,mentions k c=false)->(∀p∈ps,∀c∈p.2,mentions k c=false)->a8M P t z ps=some r->∀c∈r,mentions k c=false
 |[],z,r,hz,_,h=>by simp[a8M]at h;subst h;exact hz
 |(i,v)::ps,z,r,hz,hp,h=>by
  simp only[a8M]at h;split at h
  .cases h
  .split at h
   .exact b3N (b7T hz (hp _ (.head _))) (λp hpm=>hp p (.tail _ hpm)) h
   .cases h
theorem c2n(k:Nat)(v:Value):mentions k (cellOf v)=false:=by unfold cellOf;split<;>rfl
theorem c5P(t:TypeId)(k:Nat)(v:Value):mentions k (a1u t v)=false:=by
 unfold a1u;split
 .rfl
 .split<;>rfl
theorem c5Q{k:Nat}{t:TypeId}{z:List DV}(h:c1M P t=some z):∀c∈z,mentions k c=false:=by
 unfold c1M at h;obtain⟨v,_,h2⟩:=f7V.1 h;split at h2
 .cases h2;intro c hc;obtain⟨y,_,rfl⟩:=List.mem_map.1 hc;exact c2n k y
 .cases h2
theorem c5R{k:Nat}{t:TypeId}{z:List DV}(h:c1L P t=some z):∀c∈z,mentions k c=false:=by unfold c1L at h;obtain⟨v,_,rfl⟩:=f7G.1 h;intro c hc;obtain⟨y,_,rfl⟩:=List.mem_map.1 hc;exact c5P _ k y
theorem c2o{o:Oper}(hq:cR o.op=true){k:Nat}(hf:cC k st=true)(h:mH P G o st=some out):mentions k out.v=false:=by
 obtain⟨dst,op,ty,pos,after,guard⟩:=o;have he:∀x:Operand,mentions k (st.eval G x)=false:=sY hf;cases op<;>simp only[cR]at hq<;>try cases hq
 case move x=>simp only[mH,a2x,f7N]at h;subst h;exact he x
 case assign x=>simp only[mH,a2x,f7N]at h;subst h;exact he x
 case pick c a b=>
  simp only[mH,b3s]at h;split at h
  .simp only[f7N]at h;subst h;simp only;split
   .exact he a
   .exact he b
  .cases h
 case build t ps=>
  simp only[mH,a7w]at h;split at h
  .split at h
   .obtain⟨c,_,rfl⟩:=f7G.1 h;rfl
   .unfold a6g at h;split at h
    .rename_i z qs hz hps;obtain⟨cs,qO,rfl⟩:=f7G.1 h;exact a4U (b3N (c5Q hz) (b1x hf hps) qO)
    .cases h
  .cases h
 case buildSlice t n ps=>
  simp only[mH,sD]at h;split at h
  .split at h
   .simp only[f7N]at h;subst h;rfl
   .cases h
  .cases h
 case load t x=>
  simp only[mH,b3t]at h;split at h
  .split at h
   .rename_i cs hk;obtain⟨y,hy,rfl⟩:=f7G.1 h;exact c5O (λc hc=>c2m hf hk c (List.mem_of_mem_drop hc)) hy
   .cases h
  .obtain⟨y,_,rfl⟩:=f7G.1 h;rfl
  .cases h
 case nilCheck x=>have:=he x;simp only[mH,uT]at h;split at h<;>first|(cases h;done)|(rename_i hx;rw[hx]at this;simp only[f7N]at h;subst h;exact this)
 case binOp op t x y u=>
  simp only[mH,b3u,a0s,c5u]at h;split at h
  .split at h<;>first|(cases h;done)|(simp only[f7N]at h;subst h;simp only;first|rfl|(split<;>rfl))
  .split at h
   .obtain⟨c,_,rfl⟩:=f7G.1 h;rfl
   .cases h
 case unOp op t x=>
  simp only[mH,vUn]at h;split at h
  .obtain⟨c,_,rfl⟩:=f7G.1 h;rfl
  .cases h
 case convert src dst x=>
  simp only[mH,b3v]at h;split at h
  .obtain⟨c,_,rfl⟩:=f7G.1 h;rfl
  .cases h
 case lookup t m k ok=>
  simp only[mH,a6h]at h;split at h
  .split at h
   .obtain⟨c,_,rfl⟩:=f7G.1 h;simp only;split<;>rfl
   .cases h
  .cases h
 case extract x i=>
  simp only[mH,a0u]at h;split at h
  .obtain⟨c,_,rfl⟩:=f7G.1 h;rfl
  .cases h
 case field t x i=>
  simp only[mH,a7x]at h;split at h
  .obtain⟨c,_,rfl⟩:=f7G.1 h;rfl
  .cases h
 case index t x i=>
  simp only[mH,a7y]at h;split at h
  .obtain⟨j,_,h⟩:=f7V.1 h;obtain⟨c,_,rfl⟩:=f7G.1 h;rfl
  .obtain⟨j,_,h⟩:=f7V.1 h;obtain⟨c,_,rfl⟩:=f7G.1 h;rfl
  .cases h
 case indexAddr t x i=>
  have hx:=he x;simp only[mH,uH]at h;split at h
  .obtain⟨j,_,h⟩:=f7V.1 h;obtain⟨c,_,h⟩:=f7V.1 h;split at h
   .simp only[f7N]at h;subst h;rfl
   .cases h
  .rename_i hxe _;split at h
   .cases h
   .obtain⟨j,_,rfl⟩:=f7G.1 h;rw[hxe]at hx;exact hx
  .split at h
   .cases h
   .obtain⟨j,_,rfl⟩:=f7G.1 h;rfl
  .cases h
 case fieldAddr t x i=>
  have hx:=he x;simp only[mH,sE]at h;split at h
  .split at h
   .cases h
   .split at h
    .rename_i hxe;simp only[f7N]at h;subst h;rw[hxe]at hx;exact hx
    .simp only[f7N]at h;subst h;rfl
    .cases h
  .cases h
 case slice t x lo hi mx=>
  simp only[mH,a7z]at h;split at h
  .obtain⟨j,_,h⟩:=f7V.1 h;obtain⟨c,_,rfl⟩:=f7G.1 h;rfl
  .split at h
   .obtain⟨j,_,h⟩:=f7V.1 h;obtain⟨c,_,rfl⟩:=f7G.1 h;rfl
   .cases h
  .split at h
   .obtain⟨j,_,h⟩:=f7V.1 h;obtain⟨c,_,rfl⟩:=f7G.1 h;rfl
   .cases h
  .split at h
   .simp only[f7N]at h;subst h;rfl
   .cases h
  .split at h
   .simp only[f7N]at h;subst h;rfl
   .cases h
  .cases h
 case call c=>
  obtain⟨callee,args,ts⟩:=c;cases callee with
  |value f=>simp[mH]at h
  |invoke r m=>simp at hq
  |builtin b=>
   simp only[mH,sF]at h;split at h
   .simp only[c8P]at h;split at h
    .simp only[f7N]at h;subst h;rfl
    .simp only[f7N]at h;subst h;rfl
    .simp only[f7N]at h;subst h;rfl
    .split at h
     .simp only[f7N]at h;subst h;rfl
     .cases h
    .cases h
   .simp at hq
   .simp at hq
   .simp only[c8Q]at h;split at h
    .simp only[f7N]at h;subst h;rfl
    .cases h
   .simp only[c8R]at h;split at h
    .simp only[f7N]at h;subst h;rfl
    .cases h
   .cases h
theorem bZ{k:Nat}{dst:Option Tmp}{v:DV}{act:OA}(h:cC k st=true)(hv:mentions k v=false):cC k (finish st dst v act)=true:=by
 obtain⟨h1,h2,h3⟩:=mJ h;cases dst with
 |none=>exact h
 |some d=>
  refine a0G (λu hu=>?_) h2 (λc hc l hl=>?_)
  .rcases List.mem_or_eq_of_mem_set hu with hu|rfl
   .exact h1 u hu
   .exact hv
  .have drop:∀c∈cG (.t d) st.own,∀l∈c.2,l.yE k=false:=λc hc l hl=>by obtain⟨c0,wL,rfl⟩:=List.mem_map.1 hc;exact h3 c0 wL l (List.mem_filter.1 hl).1
   simp only[finish]at hc;cases act with
   |no=>exact drop c hc l hl
   |al l0=>
    simp only[dU]at hc;split at hc
    .exact h3 c hc l hl
    .unfold addAlias at hc;obtain⟨c0,wL,rfl⟩:=List.mem_map.1 hc;split at hl
     .rcases List.mem_cons.1 hl with rfl|hl
      .rfl
      .exact drop c0 wL l hl
     .exact drop c0 wL l hl
   |fresh e=>
    simp only[dU]at hc;rcases List.mem_cons.1 hc with rfl|hc
    .simp only[f7O]at hl;subst hl;rfl
    .exact drop c hc l hl
theorem QY.free{all:Array Oper}{o:Oper}{d:DV}{act:OA}{k:Nat}(hq:cR o.op=true)(h:QY P G all o d act st)(hf:cC k st=true):mentions k d=false:=by
 rcases h with⟨_,⟨f,ds,own,_,_,_,hk,_⟩|⟨_,_,ho⟩|⟨_,f,f7F,ks,_,_,_,_,_,hk,_⟩⟩|⟨_,rfl,_⟩
 .exact zT hk
 .exact c2o hq hf ho
 .exact zT hk
 .rfl
theorem eI{o:Oper}(h:(isApp o||dZ o)=true):pB o=true:=by unfold pB;rw[h];rfl
theorem gP{o:Oper}(h:pB o=true):mZ G o st=none/\eB G o st=none/\cR o.op=false/\a3i o=false:=by
 obtain⟨dst,op,ty,pos,after,guard⟩:=o;cases op with
 |call c=>
  obtain⟨callee,args,ts⟩:=c;cases callee with
  |builtin b=>cases b<;>first|exact⟨rfl,rfl,rfl,rfl⟩|(simp[pB,isApp,dZ,b2y]at h)
  |_=>simp[pB,isApp,dZ,b2y]at h
 |alloc e=>exact⟨rfl,rfl,rfl,rfl⟩
 |store _ _ _=>exact⟨rfl,rfl,rfl,rfl⟩
 |_=>simp[pB,isApp,dZ,b2y]at h
def Eff(P:Program)(G:GT)(all:Array Oper)(o:Oper)(st s:St):Prop:=
 (cR o.op=true/\∃d act,QY P G all o d act st/\s=finish st o.dst d (a6L all o act))\/
 (pB o=true/\((eR o all st.tmps=some true/\∃out,mH P G o st=some out/\s=finish out.st o.dst out.v out.act)\/(eR o all st.tmps=some false/\s=finish st o.dst (.bY []) .no)))
theorem dF{all:Array Oper}{o:Oper}{K:St->Prop}(h:(cR o.op=true/\mI all o=false)\/pB o=true):pA P G true all o K st↔∃s,Eff P G all o st s/\K s:=by
 rcases h with⟨hq,hal⟩|hs
 .rw[c5N hq hal];constructor
  .rintro⟨d,act,h1,h2⟩;exact⟨_,.inl ⟨hq,d,act,h1,rfl⟩,h2⟩
  .rintro⟨s,⟨_,d,act,h1,rfl⟩|⟨hs,_⟩,h2⟩
   .exact⟨d,act,h1,h2⟩
   .rw[(gP (G:=G) (st:=st) hs).2.2.1]at hq;cases hq
 .obtain⟨h1,h2,h3,_⟩:=gP (G:=G) (st:=st) hs;have yZ:∀d act,a8U true all o d act=act:=λd act=>by simp[a8U,h3]
  unfold pA;rw[h1,h2];simp only;constructor
  .intro h;split at h
   .rename_i hw;split at h
    .rename_i out ho;rw[yZ]at h;exact⟨_,.inr ⟨hs,.inl ⟨hw,out,ho,rfl⟩⟩,h⟩
    .cases h
   .rename_i hw;exact⟨_,.inr ⟨hs,.inr ⟨hw,rfl⟩⟩,h⟩
   .cases h
  .rintro⟨s,⟨hq,_⟩|⟨_,⟨hw,out,ho,rfl⟩|⟨hw,rfl⟩⟩,hk⟩
   .rw[h3]at hq;cases hq
   .rw[hw];simp only;rw[ho];simp only;rw[yZ];exact hk
   .rw[hw];exact hk
theorem dW{x y:Option Tmp}{d e:DV}{a:OA}(h:∀t,x=some t->y≠some t)(ha:a=.no\/∃k,a=.fresh k):finish (finish st x d .no) y e a=finish (finish st y e a) x d .no:=by
 cases x with
 |none=>cases y<;>rfl
 |some t=>
  cases y with
  |none=>rfl
  |some u=>
   have eF:t≠u:=λhe=>h t rfl (he▸rfl);simp only[finish];rw[List.set_comm _ _ eF];congr 1;rcases ha with rfl|⟨k,rfl⟩
   .exact qD _ _ _
   .exact(a7L (Ne.symm eF) _).symm
theorem a8W{l x:Loc}(h:l≠x):∀own:List (TypeId×List Loc),gC l (cG x own)=(gC l own).map λp=>(p.1,cG x p.2)
 |[]=>rfl
 |c::r=>by
  have hc:=a6V h c.2;have ih:=a8W h r;unfold cG at ih|-;simp only[List.map_cons,gC,hc];split
  .rfl
  .rw[ih];cases gC l r<;>rfl
theorem b1y{l:Loc}:∀ {own:List (TypeId×List Loc)} {e:TypeId} {dV:List (TypeId×List Loc)},gC l own=some (e,dV)->∀c∈dV,c∈own
 |c::r,e,dV,h,x,hx=>by
  unfold gC at h;split at h
  .cases h;exact .tail _ hx
  .obtain⟨p,hp,he⟩:=f7G.1 h;cases he;rcases List.mem_cons.1 hx with rfl|hx
   .exact .head _
   .exact .tail _ (b1y hp x hx)
theorem yJ{o:Oper}(h:isApp o=true)(ho:mH P G o st=some out):(∃e,out.act=.fresh e)/\(∃es,out.v=.d (.sl es))/\∃dV,out.st={st with own:=dV}/\∀c∈dV,c∈st.own:=by
 obtain⟨dst,op,ty,pos,after,guard⟩:=o;cases op with
 |call c=>
  obtain⟨callee,args,ts⟩:=c;cases callee with
  |builtin b=>
   cases b<;>simp[isApp]at h;simp only[mH,sF]at ho;split at ho
   .rename_i h1 _ _;cases h1
   .unfold a2Z at ho;split at ho
    .split at ho
     .split at ho
      .split at ho
       .simp only[f7N]at ho;subst ho;exact⟨⟨_,rfl⟩,⟨_,rfl⟩,st.own,rfl,λ_ h=>h⟩
       .cases ho
      .split at ho
       .rename_i e' dV ht;split at ho
        .simp only[f7N]at ho;subst ho;exact⟨⟨_,rfl⟩,⟨_,rfl⟩,dV,rfl,b1y ht⟩
        .cases ho
       .cases ho
      .cases ho
     .cases ho
    .cases ho
   .rename_i h1 _ _;cases h1
   .rename_i h1 _;cases h1
   .rename_i h1 _;cases h1
   .cases ho
  |_=>simp[isApp]at h
 |_=>simp[isApp]at h
theorem wX{all:Array Oper}{o:Oper}(h:isApp o=true){dst:Option Tmp}{d:DV}(hl:∀t,dst=some t->t ∉ o.looksAt all):mH P G o (finish st dst d .no)=(mH P G o st).map λout=>⟨out.v,out.act,finish out.st dst d .no⟩:=by
 have he:=a7J (G:=G) (st:=st) (d:=d) (act:=.no) hl;obtain⟨f0O,op,ty,pos,after,guard⟩:=o;cases op with
 |call c=>
  obtain⟨callee,args,ts⟩:=c;cases callee with
  |builtin b=>
   cases b<;>simp[isApp]at h;have mem:∀ {x:Operand} {l:List Operand},args.toList=l->x∈l->(finish st dst d .no).eval G x=st.eval G x:=λhl hx=>he _ (by simp only[Op.operands,Call.operands];rw[<-Array.mem_toList_iff];simp[hl,hx]);simp only[mH,sF];split
   .rename_i h1 _ _;cases h1
   .rename_i s x t' t'' _ heq _;have hs:=mem heq (x:=s) (by simp);have hx:=mem heq (x:=x) (by simp);simp only[a2Z,hs,hx];split
    .split
     .split
      .split
       .rfl
       .rfl
      .rename_i xs i _;cases dst with
       |none=>
        simp only[finish];split
        .split
         .rfl
         .rfl
        .rfl
       |some u=>
        have eF:(Loc.t i)≠ .t u:=λe=>hl u rfl (by cases e;exact List.mem_append_left _ (List.mem_filterMap.2 ⟨.tmp i,by simp[Op.operands,Call.operands,heq],rfl⟩))
        simp only[finish,dU,a8W eF];cases gC (.t i) st.own with
        |none=>rfl
        |some p=>
         obtain⟨e',dV⟩:=p;simp only[Option.map_some];split
         .rfl
         .rfl
      .rfl
     .rfl
    .rfl
   .rename_i h1 _ _;cases h1
   .rename_i h1 _;cases h1
   .rename_i h1 _;cases h1
   .rfl
  |_=>simp[isApp]at h
 |_=>simp[isApp]at h
theorem c2p{o:Oper}(h:isApp o=true){H:List (Nat×aW)}:mH P G o {st with H:=H}=(mH P G o st).map λout=>⟨out.v,out.act,{out.st with H:=H}⟩:=by
 obtain⟨f0O,op,ty,pos,after,guard⟩:=o;have he:∀x:Operand,({st with H:=H}:St).eval G x=st.eval G x:=λx=>by cases x<;>rfl
 cases op with
 |call c=>
  obtain⟨callee,args,ts⟩:=c;cases callee with
  |builtin b=>
   cases b<;>simp[isApp]at h;simp only[mH,sF];split
   .rename_i h1 _ _;cases h1
   .simp only[a2Z,he];split
    .split
     .split
      .split<;>rfl
      .cases gC _ st.own with
       |none=>rfl
       |some p=>obtain⟨e',dV⟩:=p;simp only;split<;>rfl
      .rfl
     .rfl
    .rfl
   .rename_i h1 _ _;cases h1
   .rename_i h1 _;cases h1
   .rename_i h1 _;cases h1
   .rfl
  |_=>simp[isApp]at h
 |_=>simp[isApp]at h
theorem c9j{k:Nat}{cs:List DV}(h:∀c∈cs,mentions k c=false):sX k (b3r cs)=true:=by
 unfold b3r;split
 .rfl
 .simp only[sX,f7K,Bool.not_eq_true'];exact h
theorem sJ{o:Oper}(h:dZ o=true):∃d,o.dst=some d/\((∃cs:aW,(∀k,sX k cs=true)/\∀st:St,mH P G o st=some ⟨.ptr d 0,.no,eL st d cs⟩)\/∀st:St,mH P G o st=none):=by
 obtain⟨dst,op,ty,pos,after,guard⟩:=o;cases op with
 |alloc e=>
  cases dst with
  |none=>simp[dZ]at h
  |some d=>
   refine⟨d,rfl,?_⟩;simp only[mH,b0v];cases hz:jH P e with
   |some cs=>
    simp only;by_cases hd:d<100000
    .simp only[hd,if_true];exact .inl ⟨.cells (cs.map .d),λk=>by simp only[sX,f7K,Bool.not_eq_true'];intro c hc;obtain⟨y,_,rfl⟩:=List.mem_map.1 hc;rfl,λ_=>rfl⟩
    .simp only[hd,if_false];exact .inr λ_=>trivial
   |none=>
    simp only;cases hc:c1L P e with
    |some cs=>
     simp only;by_cases hd:d<100000
     .simp only[hd,if_true];exact .inl ⟨b3r cs,λk=>c9j (c5R hc),λ_=>rfl⟩
     .simp only[hd,if_false];exact .inr λ_=>trivial
    |none=>exact .inr λ_=>rfl
 |_=>simp[dZ]at h
theorem a4V{α:Type}{f:α->α}:∀ {l:List α},(∀x∈l,f x=x)->l.map f=l
 |[],_=>rfl
 |x::r,h=>by rw[List.map_cons,h x (.head _),a4V λy hy=>h y (.tail _ hy)]
theorem bK{k:Nat}{o:aW}(h:cC k st=true):eL st k o={st with H:=bP k o st.H}:=by
 obtain⟨h1,h2,h3⟩:=mJ h;unfold eL;have e1:st.tmps.map (kV k)=st.tmps:=a4V λv hv=>by unfold kV;rw[h1 v hv,if_neg (by simp)]
 have e2:(st.H.map λp=>(p.1,a1t k p.2))=st.H:=a4V λp hp=>by
  obtain⟨a,b⟩:=p;have:=(h2 _ hp).2;cases b with
  |cells cs=>simp only[sX,f7K,Bool.not_eq_true']at this;simp only[a1t];rw[a4V λv hv=>by unfold kV;rw[this v hv,if_neg (by simp)]]
  |_=>rfl
 have e3:dropKey k st.own=st.own:=a4V λc hc=>by obtain⟨a,b⟩:=c;simp only;rw[List.filter_eq_self.2 λl hl=>by simp[h3 _ hc l hl]]
 rw[e1,e2,e3]
theorem b1z{k:Nat}{o:aW}:∀ {H:List (Nat×aW)} {p:Nat×aW},p∈a0q k o H->p=(k,o)\/p∈H
 |(k',o')::r,p,h=>by
  unfold a0q at h;split at h
  .rcases List.mem_cons.1 h with h|h
   .exact .inl h
   .exact .inr (.tail _ h)
  .rcases List.mem_cons.1 h with h|h
   .exact .inr (h▸ .head _)
   .rcases b1z h with h|h
    .exact .inl h
    .exact .inr (.tail _ h)
theorem b1A{k:Nat}{o:aW}:∀ {H:List (Nat×aW)} {p:Nat×aW},p∈kZ k o H->p=(k,o)\/p∈H
 |[],p,h=>by simp[kZ]at h;exact .inl h
 |(k',o')::r,p,h=>by
  unfold kZ at h;split at h
  .rcases List.mem_cons.1 h with h|h
   .exact .inl h
   .exact .inr h
  .rcases List.mem_cons.1 h with h|h
   .exact .inr (h▸ .head _)
   .rcases b1A h with h|h
    .exact .inl h
    .exact .inr (.tail _ h)
theorem a4W{k:Nat}{o:aW}{H:List (Nat×aW)}{p:Nat×aW}(h:p∈bP k o H):p=(k,o)\/p∈H:=by
 unfold bP at h;split at h
 .exact b1z h
 .exact b1A h
theorem a4X{k d:Nat}{cs:aW}(hd:d≠k)(hc:sX k cs=true)(h:cC k st=true):cC k (eL st d cs)=true:=by
 obtain⟨h1,h2,h3⟩:=mJ h;have kill:∀v:DV,mentions k v=false->mentions k (kV d v)=false:=λv hv=>by
  unfold kV;split
  .rfl
  .exact hv
 refine a0G (λv hv=>?_) (λp hp=>?_) λc hcc l hl=>?_
 .obtain⟨u,hu,rfl⟩:=List.mem_map.1 hv;exact kill u (h1 u hu)
 .rcases a4W hp with rfl|hp
  .exact⟨hd,hc⟩
  .obtain⟨q,hq,rfl⟩:=List.mem_map.1 hp;obtain⟨q1,q2⟩:=h2 q hq;refine⟨q1,?_⟩;cases hq2:q.2 with
   |cells c0=>rw[hq2]at q2;simp only[sX,a1t,f7K,Bool.not_eq_true']at q2|-;intro v hv;obtain⟨u,hu,rfl⟩:=List.mem_map.1 hv;exact kill u (q2 u hu)
   |_=>rfl
 .obtain⟨c0,wL,rfl⟩:=List.mem_map.1 hcc;exact h3 c0 wL l (List.mem_filter.1 hl).1
theorem b9F(k:Nat)(x:Loc)(own:List (TypeId×List Loc)):dropKey k (cG x own)=cG x (dropKey k own):=by simp only[dropKey,cG,List.map_map];refine List.map_congr_left λc _=>?_;simp only[Function.comp,List.filter_filter,Bool.and_comm]
theorem a8X{o:Oper}(h:b2y o=true):o.dst=none/\∃t a x,o.op=.store t a x:=by
 obtain⟨dst,op,ty,pos,after,guard⟩:=o;cases op with
 |store t a x=>
  cases dst with
  |none=>exact⟨rfl,t,a,x,rfl⟩
  |some d=>simp[b2y]at h
 |_=>simp[b2y]at h
theorem d2d{o:Oper}(h:b2y o=true)(ho:mH P G o st=some out):out.v=.bY []/\out.act=.no/\out.st.tmps=st.tmps:=by
 obtain⟨_,t,a,x,tO⟩:=a8X h;simp only[mH,tO,uG]at ho;split at ho
 .split at ho
  .split at ho
   .simp only[f7N]at ho;subst ho;exact⟨rfl,rfl,rfl⟩
   .cases ho
  .cases ho
 .cases ho
theorem b7U{all:Array Oper}{o:Oper}(h:b2y o=true){dst:Option Tmp}{d:DV}(hl:∀t,dst=some t->t ∉ o.looksAt all):mH P G o (finish st dst d .no)=(mH P G o st).map λout=>⟨out.v,out.act,finish out.st dst d .no⟩:=by
 have he:=a7J (G:=G) (st:=st) (d:=d) (act:=.no) hl;obtain⟨_,t,a,x,tO⟩:=a8X h;have ha:=he a (by simp[tO,Op.operands]);have hx:=he x (by simp[tO,Op.operands]);have hxl:∀u s,dst=some u->uF x=.al (.t s)->s≠u:=λu s hu hs e=>by
  cases x with
  |tmp j=>simp only[uF,OA.al.injEq,Loc.t.injEq]at hs;exact hl u hu (by rw[<-e, <- hs];exact List.mem_append_left _ (List.mem_filterMap.2 ⟨.tmp j,by simp[tO,Op.operands],rfl⟩))
  |_=>cases hs
 simp only[mH,tO,uG,ha,hx,a4S];split
 .rename_i k off ys _ _;split
  .split
   .simp only[Option.map_some,f7N,Out.mk.injEq,true_and];cases dst with
    |none=>rfl
    |some u=>
     simp only[finish,St.mk.injEq,true_and];split
     .rcases a1B (st.eval G x) (uF x)with h1|h1
      .rw[h1];exact(qD _ _ _)
      .rw[h1];cases hx':uF x with
       |no=>exact(qD _ _ _)
       |al l=>
        cases x with
        |tmp j=>simp only[uF,OA.al.injEq]at hx';subst hx';have hju:(Loc.t j)≠ .t u:=λe=>hxl u j rfl rfl (by cases e;rfl);simp only[dU];rw[if_neg (by simp),if_neg (by simp),qD,b3K hju (by simp)]
        |_=>cases hx'
       |fresh e=>cases x<;>cases hx'
     .exact b9F _ _ _
   .rfl
  .rfl
 .rfl
theorem d2e{o:Oper}(hq:a7I o.op=true){st':St}(he:∀x∈o.op.operands,st'.eval G x=st.eval G x):mH P G o st'=(mH P G o st).map λout=>⟨out.v,out.act,st'⟩:=by
 obtain⟨dst,op,ty,pos,after,guard⟩:=o;have zO:∀(x:Option Operand) (d n:Nat),(∀y,x=some y->st'.eval G y=st.eval G y)->eW G st' x d n=eW G st x d n:=λx d n hx=>by
  cases x with
  |none=>rfl
  |some y=>simp only[eW,hx y rfl]
 cases op<;>simp only[a7I]at hq<;>try cases hq
 all_goals simp only[Op.operands]at he
 case move x=>simp[mH,a2x,he]
 case assign x=>simp[mH,a2x,he]
 case pick c a b=>simp only[mH,b3s,he c (by simp),he a (by simp),he b (by simp)];split<;>rfl
 case nilCheck x=>simp only[mH,uT,he x (by simp)];split<;>rfl
 case binOp op t x y u=>
  simp only[mH,b3u,a0s,c5u,he x (by simp),he y (by simp)];split
  .split<;>rfl
  .split
   .simp[Option.map_map,Function.comp_def]
   .rfl
 case unOp op t x=>
  simp only[mH,vUn,he x (by simp)];split
  .simp[Option.map_map,Function.comp_def]
  .rfl
 case convert src dst x=>
  simp only[mH,b3v,he x (by simp)];split
  .simp[Option.map_map,Function.comp_def]
  .rfl
 case extract x i=>
  simp only[mH,a0u,he x (by simp)];split
  .simp[Option.map_map,Function.comp_def]
  .rfl
 case field t x i=>
  simp only[mH,a7x,he x (by simp)];split
  .simp[Option.map_map,Function.comp_def]
  .rfl
 case index t x i=>
  simp only[mH,a7y,he x (by simp),he i (by simp)];split
  .simp[Option.map_bind,Option.map_map,Function.comp_def]
  .simp[Option.map_bind,Option.map_map,Function.comp_def]
  .rfl
 case indexAddr t x i=>
  simp only[mH,uH,he x (by simp),he i (by simp)];split
  .rw[Option.map_bind];congr 1;funext j;simp only[Function.comp];rw[Option.map_bind];congr 1;funext cs;simp only[Function.comp];split<;>rfl
  .split
   .rfl
   .simp[Option.map_map,Function.comp_def]
  .split
   .rfl
   .simp[Option.map_map,Function.comp_def]
  .rfl
 case fieldAddr t x i=>
  simp only[mH,sE,he x (by simp)];split
  .split
   .rfl
   .split<;>rfl
  .rfl
 case slice t x lo hi mx=>
  have rT:∀y,lo=some y->st'.eval G y=st.eval G y:=λy hy=>he y (by simp[hy]);have hhi:∀y,hi=some y->st'.eval G y=st.eval G y:=λy hy=>he y (by simp[hy]);have hmx:∀y,mx=some y->st'.eval G y=st.eval G y:=λy hy=>he y (by simp[hy]);simp only[mH,a7z,he x (by simp),zO lo _ _ rT,zO hi _ _ hhi];split
  .simp[Option.map_bind,Option.map_map,Function.comp_def]
  .split
   .simp[Option.map_bind,Option.map_map,Function.comp_def]
   .rfl
  .split
   .simp[Option.map_bind,Option.map_map,Function.comp_def]
   .rfl
  .rw[zO (some _) _ _ λy hy=>hmx y hy];split<;>rfl
  .rw[zO (some _) _ _ λy hy=>hmx y hy];split<;>rfl
  .rfl
theorem oA{o:Oper}(h:a7I o.op=true):cR o.op=true/\eB G o st=none/\mZ G o st=none:=by obtain⟨dst,op,ty,pos,after,guard⟩:=o;cases op<;>simp only[a7I]at h<;>first|exact⟨rfl,rfl,rfl⟩|cases h
theorem QY.pure{all:Array Oper}{o:Oper}{d:DV}{ac:OA}{st':St}(h:QY P G all o d ac st)(hq:a7I o.op=true)(ht:st'.tmps=st.tmps):QY P G all o d ac st':=by
 have he:∀x:Operand,st'.eval G x=st.eval G x:=λx=>by cases x<;>simp[St.eval,ht]
 obtain⟨_,h1,h2⟩:=oA (G:=G) (st:=st) hq;obtain⟨_,h1',h2'⟩:=oA (G:=G) (st:=st') hq;rcases h with⟨hw,⟨f,ds,own,hc,_⟩|⟨hc,yW,ho⟩|⟨hc,f,f7F,ks,yW,_⟩⟩|⟨hw,h3⟩
 .rw[h2]at hc;cases hc
 .exact .inl ⟨by rw[ht];exact hw,.inr (.inl ⟨h2',h1',by rw[d2e hq (λx _=>he x),ho];rfl⟩)⟩
 .rw[h1]at yW;cases yW
 .exact .inr ⟨by rw[ht];exact hw,h3⟩
theorem b3O{o:Oper}{k:Nat}{t:TypeId}{ad x:Operand}(ho:o.op=.store t ad x)(hf:cC k st=true)(h:mH P G o st=some out):cC k out.st=true/\mentions k out.v=false:=by
 obtain⟨h1,h2,h3⟩:=mJ hf;simp only[mH,ho,uG]at h;split at h
 .rename_i key off ys ha hx;have eF:key≠k:=λe=>by have:=sY (G:=G) hf ad;rw[ha]at this;simp only[mentions,beq_eq_false_iff_ne,ne_eq]at this;exact this e
  split at h
  .rename_i cs hk;split at h
   .simp only[f7N]at h;subst h;refine⟨a0G h1 (λp hp=>?_) λc hc l hl=>?_,rfl⟩
    .rcases a4W hp with rfl|hp
     .refine⟨eF,?_⟩;simp only[sX,f7K,Bool.not_eq_true'];exact b7T (λc hc=>c2m hf hk c hc) (b1w (sY hf x) hx)
     .exact h2 p hp
    .simp only at hc;have drop:∀c∈cG (.c key off) st.own,∀l∈c.2,l.yE k=false:=λc hc l hl=>by obtain⟨c0,wL,rfl⟩:=List.mem_map.1 hc;exact h3 c0 wL l (List.mem_filter.1 hl).1
     have wM:(Loc.c key off).yE k=false:=by simp[Loc.yE,eF]
     split at hc
     .generalize sC (st.eval G x) (uF x)=act at hc;cases act with
      |no=>exact drop c hc l hl
      |al l0=>
       simp only[dU]at hc;split at hc
       .exact h3 c hc l hl
       .unfold addAlias at hc;obtain⟨c0,wL,rfl⟩:=List.mem_map.1 hc;split at hl
        .rcases List.mem_cons.1 hl with rfl|hl
         .exact wM
         .exact drop c0 wL l hl
        .exact drop c0 wL l hl
      |fresh e=>
       simp only[dU]at hc;rcases List.mem_cons.1 hc with rfl|hc
       .simp only[f7O]at hl;subst hl;exact wM
       .exact drop c hc l hl
     .obtain⟨c0,wL,rfl⟩:=List.mem_map.1 hc;exact h3 c0 wL l (List.mem_filter.1 hl).1
   .cases h
  .cases h
 .cases h
theorem tS{all:Array Oper}{o:Oper}{s:St}{k:Nat}(h:Eff P G all o st s)(hf:cC k st=true)(hn:dZ o=true->o.dst≠some k):cC k s=true:=by
 rcases h with⟨hq,d,act,hy,rfl⟩|⟨hs,⟨hw,out,ho,rfl⟩|⟨hw,rfl⟩⟩
 .exact bZ hf (hy.free hq hf)
 .cases ha:isApp o with
  |true=>obtain⟨_,⟨es,hv⟩,dV,mD,c2q⟩:=yJ ha ho;obtain⟨h1,h2,h3⟩:=mJ hf;refine bZ ?_ (by rw[hv];rfl);rw[mD];exact a0G h1 h2 λc hc=>h3 c (c2q c hc)
  |false=>
   cases hs2:dZ o with
   |true=>
    obtain⟨d,hd,⟨cs,qO,hv⟩|hv⟩:=sJ (P:=P) (G:=G) hs2
    .rw[hv]at ho;cases ho;have hdk:d≠k:=λe=>hn hs2 (e▸hd);exact bZ (a4X hdk (qO k) hf) (by simp[mentions,hdk])
    .rw[hv]at ho;cases ho
   |false=>
    have mD:b2y o=true:=by simpa[pB,ha,hs2]using hs
    obtain⟨_,t,a,x,tO⟩:=a8X mD;obtain⟨h1,h2⟩:=b3O tO hf ho;exact bZ h1 h2
 .exact bZ hf rfl
theorem a0k{H:List (Nat×aW)}(x:Operand):({st with H:=H}:St).eval G x=st.eval G x:=by cases x<;>rfl
theorem b1B{own:List (TypeId×List Loc)}(x:Operand):({st with own:=own}:St).eval G x=st.eval G x:=by cases x<;>rfl
theorem b7V{ops:Array Oper}{o:Oper}(h:dZ o=true):tH ops o=false:=by
 obtain⟨dst,op,ty,pos,after,guard⟩:=o;cases op with
 |alloc e=>cases guard<;>cases dst<;>rfl
 |_=>simp[dZ]at h
theorem a8Y{ops:Array Oper}{x y:Oper}{s1 s12:St}(yV:x.apart ops y=true)(hp:qC ops x y=true)(fx:dZ x=true->∀d,x.dst=some d->cC d st=true)(fy:dZ y=true->∀d,y.dst=some d->cC d st=true)(h1:Eff P G ops x st s1)(h2:Eff P G ops y s1 s12):∃s2,Eff P G ops y st s2/\Eff P G ops x s2 s12:=by
 obtain⟨a1,a2,a3⟩:=Oper.apart_spec yV;have a2':∀t,y.dst=some t->x.dst≠some t:=λt ht he=>a2 t he ht;unfold qC at hp;simp only[f7T,f7H,Bool.not_eq_true']at hp;have noq:∀ {o:Oper} {a:OA},tH ops o=false->a6L ops o a=.no:=λhn=>by unfold a6L;rw[hn];rfl
 rcases hp with((((((⟨⟨hqx,hqy⟩,hnn⟩|⟨⟨hqx,hsy⟩,hnx⟩)|⟨⟨⟨hsx,hqy⟩,hny⟩,hcy⟩)|⟨hqx,c7N⟩)|⟨⟨c7O,hqy⟩,hcy⟩)|⟨⟨hsx,hsy⟩,hnn⟩)|⟨⟨hpx,hnx⟩,hsy⟩)|⟨⟨hsx,hpy⟩,hny⟩
 ·
  rcases h1 with⟨_,d,ax,hx,rfl⟩|⟨hs,_⟩
  .rcases h2 with⟨_,e,ay,hy,rfl⟩|⟨hs,_⟩
   .have hy':=(QY.finish hqy a1).1 hy;refine⟨_,.inl ⟨hqy,e,ay,hy',rfl⟩,.inl ⟨hqx,d,ax,(QY.finish hqx a3).2 hx,?_⟩⟩;exact yI a2 a1 a3 hnn hx.act hy'.act
   .rw[(gP (G:=G) (st:=st) hs).2.2.1]at hqy;cases hqy
  .rw[(gP (G:=G) (st:=st) hs).2.2.1]at hqx;cases hqx
 ·
  have a4u:(isApp y||dZ y)=true:=by simp[hsy]
  rcases h1 with⟨_,d,ax,hx,rfl⟩|⟨hs,_⟩
  .rw[noq hnx]at h2;rcases h2 with⟨hq,_⟩|⟨_,⟨hw,out,ho,rfl⟩|⟨hw,rfl⟩⟩
   .rw[(gP (G:=G) (st:=st) (eI a4u)).2.2.1]at hq;cases hq
   .rw[bB a1]at hw;cases ha:isApp y with
    |true=>
     rw[wX ha a1]at ho;obtain⟨f0P,ho0,rfl⟩:=f7G.1 ho;obtain⟨⟨e,yZ⟩,_,dV,mD,c2q⟩:=yJ ha ho0;refine⟨_,.inr ⟨eI a4u,.inl ⟨hw,f0P,ho0,rfl⟩⟩,.inl ⟨hqx,d,ax,?_,?_⟩⟩
     .refine(QY.finish hqx a3).2 ?_;rw[mD];refine QY.to hx hqx rfl (λz _=>b1B z) (λ_ _ _ _=>rfl) (λ_ _ _ h=>h) (λ_ ks _ sG=>?_);exact f7K.2 λc hc=>f7K.1 sG c (c2q c hc)
     .simp only;rw[noq hnx,yZ,dW a2 (.inr ⟨e,rfl⟩)]
    |false=>
     have hny:dZ y=true:=by simpa[ha]using a4u
     obtain⟨k,hk,⟨cs,qO,hv⟩|hv⟩:=sJ (P:=P) (G:=G) hny
     .have hf:=fy hny k hk;have hfd:=hx.free hqx hf;have hf1:cC k (finish st x.dst d .no)=true:=bZ hf hfd;rw[hv]at ho;cases ho;rw[bK hf1];refine⟨_,.inr ⟨eI a4u,.inl ⟨hw,_,hv st,rfl⟩⟩,.inl ⟨hqx,d,ax,?_,?_⟩⟩
      .refine(QY.finish hqx a3).2 ?_;simp only;rw[bK hf];refine QY.to hx hqx rfl (λz _=>a0k z) (λz _ k' hm=>?_) (λ_ k' ob wM=>?_) (λ_ ks _ sG=>sG)
       .have:k≠k':=λe=>by subst e;rw[sY hf z]at hm;cases hm
        exact jV _ this _
       .have:k≠k':=λe=>by subst e;rw[zU hf]at wM;cases wM
        rw[jV _ this];exact wM
      .simp only;rw[noq hnx,bK hf, <- dW a2 (.inl rfl)];congr 1;cases x.dst<;>rfl
     .rw[hv]at ho;cases ho
   .rw[bB a1]at hw;refine⟨_,.inr ⟨eI a4u,.inr ⟨hw,rfl⟩⟩,.inl ⟨hqx,d,ax,(QY.finish hqx a3).2 hx,?_⟩⟩;rw[noq hnx,dW a2 (.inl rfl)]
  .rw[(gP (G:=G) (st:=st) hs).2.2.1]at hqx;cases hqx
 ·
  have a4v:(isApp x||dZ x)=true:=by simp[hsx]
  rcases h2 with⟨_,e,ay,hy,rfl⟩|⟨hs,_⟩
  .rcases h1 with⟨hq,_⟩|⟨_,⟨hw,out,ho,rfl⟩|⟨hw,rfl⟩⟩
   .rw[(gP (G:=G) (st:=st) (eI a4v)).2.2.1]at hq;cases hq
   .cases ha:isApp x with
    |true=>
     obtain⟨⟨k,yZ⟩,_,dV,mD,c2q⟩:=yJ ha ho;have hy':QY P G ops y e ay st:=by have h3:=(QY.finish hqy a1).1 hy;rw[mD]at h3;exact h3.to hqy rfl (λz _=>(b1B z).symm) (λ_ _ _ _=>rfl) (λ_ _ _ h=>h) λhc=>by rw[hcy]at hc;cases hc
     refine⟨_,.inl ⟨hqy,e,ay,hy',rfl⟩,.inr ⟨eI a4v,.inl ⟨by rw[bB a3];exact hw,⟨out.v,out.act,finish out.st y.dst e .no⟩,?_,?_⟩⟩⟩
     .rw[noq hny,wX ha a3,ho];rfl
     .simp only;rw[noq hny,yZ,dW a2' (.inr ⟨k,rfl⟩)]
    |false=>
     have hnx:dZ x=true:=by simpa[ha]using a4v
     obtain⟨k,hk,⟨cs,qO,hv⟩|hv⟩:=sJ (P:=P) (G:=G) hnx
     .have hf:=fx hnx k hk;rw[hv]at ho;cases ho;have hy':QY P G ops y e ay st:=by
       have h3:=(QY.finish hqy a1).1 hy;simp only at h3;rw[bK hf]at h3;refine h3.to hqy rfl (λz _=>(a0k z).symm) (λz _ k' hm=>?_) (λhc=>by rw[hcy]at hc;cases hc) λhc=>by rw[hcy]at hc;cases hc
       rw[a0k]at hm;have:k≠k':=λe=>by subst e;rw[sY hf z]at hm;cases hm
       exact(jV _ this _).symm
      have hf2:cC k (finish st y.dst e .no)=true:=bZ hf (hy'.free hqy hf);refine⟨_,.inl ⟨hqy,e,ay,hy',rfl⟩,.inr ⟨eI a4v,.inl ⟨by rw[bB a3];exact hw,_,hv _,?_⟩⟩⟩;simp only;rw[noq hny,bK hf,bK hf2,dW a2 (.inl rfl)];cases y.dst<;>rfl
     .rw[hv]at ho;cases ho
   .have hy':=(QY.finish hqy a1).1 hy;refine⟨_,.inl ⟨hqy,e,ay,hy',rfl⟩,.inr ⟨eI a4v,.inr ⟨by rw[bB a3];exact hw,?_⟩⟩⟩;rw[noq hny,dW a2' (.inl rfl)]
  .rw[(gP (G:=G) (st:=st) hs).2.2.1]at hqy;cases hqy
 ·
  have hss:pB y=true:=eI (by simp[c7N]);have e7o:tH ops y=false:=b7V c7N;rcases h1 with⟨_,d,ax,hx,rfl⟩|⟨hs,_⟩
  .rcases h2 with⟨hq,_⟩|⟨_,⟨hw,out,ho,rfl⟩|⟨hw,rfl⟩⟩
   .rw[(gP (G:=G) (st:=st) hss).2.2.1]at hq;cases hq
   .rw[bB a1]at hw;obtain⟨k,hk,⟨cs,qO,hv⟩|hv⟩:=sJ (P:=P) (G:=G) c7N
    .have hf:=fy c7N k hk;have hfd:=hx.free hqx hf;have hf1:cC k (finish st x.dst d (a6L ops x ax))=true:=bZ hf hfd;rw[hv]at ho;cases ho;rw[bK hf1];refine⟨_,.inr ⟨hss,.inl ⟨hw,_,hv st,rfl⟩⟩,.inl ⟨hqx,d,ax,?_,?_⟩⟩
     .refine(QY.finish hqx a3).2 ?_;simp only;rw[bK hf];refine QY.to hx hqx rfl (λz _=>a0k z) (λz _ k' hm=>?_) (λ_ k' ob wM=>?_) (λ_ ks _ sG=>sG)
      .have:k≠k':=λe=>by subst e;rw[sY hf z]at hm;cases hm
       exact jV _ this _
      .have:k≠k':=λe=>by subst e;rw[zU hf]at wM;cases wM
       rw[jV _ this];exact wM
     .simp only;rw[bK hf, <- yI a2 a1 a3 (by rw[e7o,Bool.and_false]) hx.act (.inl rfl)];congr 1;cases x.dst<;>rfl
    .rw[hv]at ho;cases ho
   .rw[bB a1]at hw;refine⟨_,.inr ⟨hss,.inr ⟨hw,rfl⟩⟩,.inl ⟨hqx,d,ax,(QY.finish hqx a3).2 hx,?_⟩⟩;exact yI a2 a1 a3 (by rw[e7o,Bool.and_false]) hx.act (.inl rfl)
  .rw[(gP (G:=G) (st:=st) hs).2.2.1]at hqx;cases hqx
 ·
  have hss:pB x=true:=eI (by simp[c7O]);have e7p:tH ops x=false:=b7V c7O;rcases h2 with⟨_,e,ay,hy,rfl⟩|⟨hs,_⟩
  .rcases h1 with⟨hq,_⟩|⟨_,⟨hw,out,ho,rfl⟩|⟨hw,rfl⟩⟩
   .rw[(gP (G:=G) (st:=st) hss).2.2.1]at hq;cases hq
   .obtain⟨k,hk,⟨cs,qO,hv⟩|hv⟩:=sJ (P:=P) (G:=G) c7O
    .have hf:=fx c7O k hk;rw[hv]at ho;cases ho;have hy':QY P G ops y e ay st:=by
      have h3:=(QY.finish hqy a1).1 hy;simp only at h3;rw[bK hf]at h3;refine QY.to h3 hqy rfl (λz _=>(a0k z).symm) (λz _ k' hm=>?_) (λhc=>by rw[hcy]at hc;cases hc) (λhc=>by rw[hcy]at hc;cases hc);rw[a0k]at hm;have:k≠k':=λe=>by subst e;rw[sY hf z]at hm;cases hm
      exact(jV _ this _).symm
     have hf2:cC k (finish st y.dst e (a6L ops y ay))=true:=bZ hf (hy'.free hqy hf);refine⟨_,.inl ⟨hqy,e,ay,hy',rfl⟩,.inr ⟨hss,.inl ⟨by rw[bB a3];exact hw,_,hv _,?_⟩⟩⟩;simp only;rw[bK hf,bK hf2,yI a2 a1 a3 (by rw[e7p,Bool.false_and]) (.inl rfl) hy'.act];cases y.dst<;>rfl
    .rw[hv]at ho;cases ho
   .have hy':=(QY.finish hqy a1).1 hy;refine⟨_,.inl ⟨hqy,e,ay,hy',rfl⟩,.inr ⟨hss,.inr ⟨by rw[bB a3];exact hw,?_⟩⟩⟩;exact yI a2 a1 a3 (by rw[e7p,Bool.false_and]) (.inl rfl) hy'.act
  .rw[(gP (G:=G) (st:=st) hs).2.2.1]at hqy;cases hqy
 ·
  have a4v:(isApp x||dZ x)=true:=by simpa using hsx
  have a4u:(isApp y||dZ y)=true:=by simpa using hsy
  have nq:∀ {o:Oper},(isApp o||dZ o)=true-> ¬cR o.op=true:=λh=>by rw[(gP (G:=G) (st:=st) (eI h)).2.2.1];simp
  have na:∀ {o:Oper},dZ o=true->isApp o=false:=λ{o} h=>by obtain⟨dst,op,ty,pos,after,guard⟩:=o;cases op<;>first|rfl|(simp[dZ]at h)
  rcases h1 with⟨hq,_⟩|⟨_,⟨hwx,out,ho,rfl⟩|⟨hwx,rfl⟩⟩
  .exact absurd hq (nq a4v)
  ·
   rcases h2 with⟨hq,_⟩|⟨_,⟨hw,f0R,ho2,rfl⟩|⟨hw,rfl⟩⟩
   .exact absurd hq (nq a4u)
   .cases hx:dZ x with
    |true=>
     obtain⟨k,hk,⟨cs,qO,hv⟩|hv⟩:=sJ (P:=P) (G:=G) hx
     .have hf:=fx hx k hk;rw[hv]at ho;cases ho;rw[bK hf]at hw ho2;rw[bB a1]at hw;cases hy:dZ y with
      |true=>
       obtain⟨k2,hk2,⟨cs2,e2L,hv2⟩|hv2⟩:=sJ (P:=P) (G:=G) hy
       .have hf2:=fy hy k2 hk2;have eF:k≠k2:=λe=>a2 k hk (e▸hk2);have hm:mentions k2 (.ptr k 0)=false:=by simp[mentions,eF]
        have hm2:mentions k (.ptr k2 0)=false:=by simp[mentions,Ne.symm eF]
        have g1:cC k2 (finish {st with H:=bP k cs st.H} x.dst (.ptr k 0) .no)=true:=bZ (by have:=a4X eF (qO k2) hf2;rwa[bK hf]at this) hm;have g2:cC k (finish {st with H:=bP k2 cs2 st.H} y.dst (.ptr k2 0) .no)=true:=bZ (by have:=a4X (Ne.symm eF) (e2L k) hf;rwa[bK hf2]at this) hm2;rw[hv2]at ho2;cases ho2;refine⟨_,.inr ⟨eI a4u,.inl ⟨hw,_,hv2 st,rfl⟩⟩,.inr ⟨eI a4v,.inl ⟨by simp only;rw[bB a3,bK hf2];exact hwx,_,hv _,?_⟩⟩⟩;simp only;rw[bK hf2,bK g1,bK g2];have e1:({finish {st with H:=bP k cs st.H} x.dst (.ptr k 0) .no with H:=bP k2 cs2 (finish {st with H:=bP k cs st.H} x.dst (.ptr k 0) .no).H}:St)=finish {st with H:=bP k2 cs2 (bP k cs st.H)} x.dst (.ptr k 0) .no:=by cases x.dst<;>rfl
        have e2:({finish {st with H:=bP k2 cs2 st.H} y.dst (.ptr k2 0) .no with H:=bP k cs (finish {st with H:=bP k2 cs2 st.H} y.dst (.ptr k2 0) .no).H}:St)=finish {st with H:=bP k cs (bP k2 cs2 st.H)} y.dst (.ptr k2 0) .no:=by cases y.dst<;>rfl
        rw[e1,e2,c1P eF _ _ (zU hf) (zU hf2)];exact dW a2 (.inl rfl)
       .rw[hv2]at ho2;cases ho2
      |false=>
       have hay:isApp y=true:=by simpa[hy]using a4u
       rw[wX hay a1,c2p hay]at ho2;obtain⟨o1,ho1,rfl⟩:=f7G.1 ho2;obtain⟨o0,ho0,rfl⟩:=f7G.1 ho1;obtain⟨⟨e,yZ⟩,_,dV,mD,c2q⟩:=yJ hay ho0;have e2M:Eff P G ops y st (finish o0.st y.dst o0.v o0.act):=.inr ⟨eI a4u,.inl ⟨hw,o0,ho0,rfl⟩⟩;have g2:cC k (finish o0.st y.dst o0.v o0.act)=true:=tS e2M hf λh=>by rw[hy]at h;cases h
       refine⟨_,.inr ⟨eI a4u,.inl ⟨hw,o0,ho0,rfl⟩⟩,.inr ⟨eI a4v,.inl ⟨by rw[bB a3,mD];exact hwx,_,hv _,?_⟩⟩⟩;simp only;rw[bK g2,yZ,dW a2 (.inr ⟨e,rfl⟩),mD];cases y.dst<;>rfl
     .rw[hv]at ho;cases ho
    |false=>
     have hax:isApp x=true:=by simpa[hx]using a4v
     have hy:dZ y=true:=by simpa[hx]using hnn
     obtain⟨⟨e,yZ⟩,⟨es,hvv⟩,dV,mD,c2q⟩:=yJ hax ho;obtain⟨k2,hk2,⟨cs2,e2L,hv2⟩|hv2⟩:=sJ (P:=P) (G:=G) hy
     .have hf2:=fy hy k2 hk2;have e2M:Eff P G ops x st (finish out.st x.dst out.v out.act):=.inr ⟨eI a4v,.inl ⟨hwx,out,ho,rfl⟩⟩;have g1:cC k2 (finish out.st x.dst out.v out.act)=true:=tS e2M hf2 λh=>by rw[hx]at h;cases h
      rw[bB a1,mD]at hw;rw[hv2]at ho2;cases ho2;refine⟨_,.inr ⟨eI a4u,.inl ⟨hw,_,hv2 st,rfl⟩⟩,.inr ⟨eI a4v,.inl ⟨by simp only;rw[bB a3,bK hf2];exact hwx,⟨out.v,out.act,finish {out.st with H:=bP k2 cs2 out.st.H} y.dst (.ptr k2 0) .no⟩,?_,?_⟩⟩⟩
      .simp only;rw[bK hf2,wX hax a3,c2p hax,ho];simp only[Option.map_some,mD]
      .simp only;rw[bK g1,yZ,dW a2' (.inr ⟨e,rfl⟩),mD];congr 1;cases x.dst<;>rfl
     .rw[hv2]at ho2;cases ho2
   ·
    have mD:out.st.tmps.length=out.st.tmps.length:=rfl;have hwy:eR y ops st.tmps=some false:=by
     rw[bB a1]at hw;cases hx:dZ x with
     |true=>
      obtain⟨k,hk,⟨cs,qO,hv⟩|hv⟩:=sJ (P:=P) (G:=G) hx
      .rw[hv]at ho;cases ho;rw[bK (fx hx k hk)]at hw;exact hw
      .rw[hv]at ho;cases ho
     |false=>obtain⟨_,_,dV,mD,_⟩:=yJ (by simpa[hx]using a4v) ho;rw[mD]at hw;exact hw
    refine⟨_,.inr ⟨eI a4u,.inr ⟨hwy,rfl⟩⟩,.inr ⟨eI a4v,.inl ⟨by rw[bB a3];exact hwx,?_⟩⟩⟩;cases hx:dZ x with
    |true=>
     obtain⟨k,hk,⟨cs,qO,hv⟩|hv⟩:=sJ (P:=P) (G:=G) hx
     .have hf:=fx hx k hk;have g2:cC k (finish st y.dst (.bY []) .no)=true:=bZ hf rfl;rw[hv]at ho;cases ho;refine⟨_,hv _,?_⟩;simp only;rw[bK hf,bK g2,dW a2 (.inl rfl)];cases y.dst<;>rfl
     .rw[hv]at ho;cases ho
    |false=>
     have hax:isApp x=true:=by simpa[hx]using a4v
     obtain⟨⟨e,yZ⟩,_,dV,mD,c2q⟩:=yJ hax ho;refine⟨⟨out.v,out.act,finish out.st y.dst (.bY []) .no⟩,by rw[wX hax a3,ho];rfl,?_⟩;simp only;rw[yZ,dW a2' (.inr ⟨e,rfl⟩)]
  ·
   rcases h2 with⟨hq,_⟩|⟨_,⟨hw,f0R,ho2,rfl⟩|⟨hw,rfl⟩⟩
   .exact absurd hq (nq a4u)
   .rw[bB a1]at hw;cases hy:dZ y with
    |true=>
     obtain⟨k2,hk2,⟨cs2,e2L,hv2⟩|hv2⟩:=sJ (P:=P) (G:=G) hy
     .have hf2:=fy hy k2 hk2;have g1:cC k2 (finish st x.dst (.bY []) .no)=true:=bZ hf2 rfl;rw[hv2]at ho2;cases ho2;refine⟨_,.inr ⟨eI a4u,.inl ⟨hw,_,hv2 st,rfl⟩⟩,.inr ⟨eI a4v,.inr ⟨by simp only;rw[bB a3,bK hf2];exact hwx,?_⟩⟩⟩;simp only;rw[bK hf2,bK g1, <- dW a2 (.inl rfl)];congr 1;cases x.dst<;>rfl
     .rw[hv2]at ho2;cases ho2
    |false=>
     have hay:isApp y=true:=by simpa[hy]using a4u
     rw[wX hay a1]at ho2;obtain⟨o0,ho0,rfl⟩:=f7G.1 ho2;obtain⟨⟨e,yZ⟩,_,dV,mD,c2q⟩:=yJ hay ho0;refine⟨_,.inr ⟨eI a4u,.inl ⟨hw,o0,ho0,rfl⟩⟩,.inr ⟨eI a4v,.inr ⟨by rw[bB a3,mD];exact hwx,?_⟩⟩⟩;simp only;rw[yZ,dW a2 (.inr ⟨e,rfl⟩)]
   .rw[bB a1]at hw;refine⟨_,.inr ⟨eI a4u,.inr ⟨hw,rfl⟩⟩,.inr ⟨eI a4v,.inr ⟨by rw[bB a3];exact hwx,?_⟩⟩⟩;exact dW a2 (.inl rfl)
 ·
  obtain⟨hqx,_,_⟩:=oA (G:=G) (st:=st) hpx;obtain⟨hyd,_⟩:=a8X hsy;have hss:pB y=true:=by simp[pB,hsy]
  rcases h1 with⟨_,d,ax,hx,rfl⟩|⟨hs,_⟩
  .rw[noq hnx]at h2;rcases h2 with⟨hq,_⟩|⟨_,⟨hw,out,ho,rfl⟩|⟨hw,rfl⟩⟩
   .rw[(gP (G:=G) (st:=st) hss).2.2.1]at hq;cases hq
   .rw[bB a1]at hw;rw[b7U hsy a1]at ho;obtain⟨o0,ho0,rfl⟩:=f7G.1 ho;obtain⟨_,_,htm⟩:=d2d hsy ho0;refine⟨_,.inr ⟨hss,.inl ⟨hw,o0,ho0,rfl⟩⟩,.inl ⟨hqx,d,ax,?_,?_⟩⟩
    .rw[hyd];exact hx.pure hpx htm
    .rw[hyd,noq hnx];rfl
   .rw[bB a1]at hw;refine⟨_,.inr ⟨hss,.inr ⟨hw,rfl⟩⟩,.inl ⟨hqx,d,ax,?_,?_⟩⟩
    .rw[hyd];exact hx
    .rw[hyd,noq hnx];rfl
  .rw[(gP (G:=G) (st:=st) hs).2.2.1]at hqx;cases hqx
 ·
  obtain⟨hqy,_,_⟩:=oA (G:=G) (st:=st) hpy;obtain⟨hxd,_⟩:=a8X hsx;have hss:pB x=true:=by simp[pB,hsx]
  rcases h2 with⟨_,e,ay,hy,rfl⟩|⟨hs,_⟩
  .rcases h1 with⟨hq,_⟩|⟨_,⟨hw,out,ho,rfl⟩|⟨hw,rfl⟩⟩
   .rw[(gP (G:=G) (st:=st) hss).2.2.1]at hq;cases hq
   .obtain⟨_,_,htm⟩:=d2d hsx ho;rw[hxd]at hy;have hy':QY P G ops y e ay st:=QY.pure (st:=out.st) hy hpy htm.symm;refine⟨_,.inl ⟨hqy,e,ay,hy',rfl⟩,.inr ⟨hss,.inl ⟨by rw[bB a3];exact hw,⟨out.v,out.act,finish out.st y.dst e .no⟩,?_,?_⟩⟩⟩
    .rw[noq hny,b7U hsx a3,ho];rfl
    .rw[hxd,noq hny];rfl
   .rw[hxd]at hy;refine⟨_,.inl ⟨hqy,e,ay,hy,rfl⟩,.inr ⟨hss,.inr ⟨by rw[bB a3];exact hw,?_⟩⟩⟩;rw[hxd];rfl
  .rw[(gP (G:=G) (st:=st) hs).2.2.1]at hqy;cases hqy
def qE(ops:Array Oper)(listed:Array Bool)(st:St):Prop:=∀(j:Nat) (oj:Oper) (d:Tmp),ops[j]? =some oj->dZ oj=true->listed.getD j true=false->oj.dst=some d->cC d st=true
def pJ(ops:Array Oper):Prop:=∀(i j:Nat) (oi oj:Oper) (d:Tmp),ops[i]? =some oi->ops[j]? =some oj->dZ oi=true->dZ oj=true->oi.dst=some d->oj.dst=some d->i=j
theorem sZ{listed:Array Bool}{i j:Nat}(h:(listed.setIfInBounds i true).getD j true=false):i≠j/\listed.getD j true=false:=by
 by_cases hij:i=j
 .subst hij;exfalso;rw[f7J]at h;by_cases hl:i<listed.size
  .simp[hl]at h
  .rw[Array.getElem?_eq_none (by simpa using hl)]at h;cases h
 .exact⟨hij,by rwa[getD_set_ne true hij]at h⟩
theorem qE.step{ops:Array Oper}{listed:Array Bool}{s:St}{i:Nat}{oi:Oper}(hA:pJ ops)(hi:ops[i]? =some oi)(hI:qE ops listed st)(hk:∀k,cC k st=true->(dZ oi=true->oi.dst≠some k)->cC k s=true):qE ops (listed.setIfInBounds i true) s:=by intro j oj d hj hn hun hd;obtain⟨hij,f0T⟩:=sZ hun;exact hk d (hI j oj d hj hn f0T hd) λhni he=>hij (hA i j oi oj d hi hj hni hn he hd)
theorem c5S{ops:Array Oper}{Q:St->Prop}{i:Nat}{oi:Oper}(hA:pJ ops)(hi:ops[i]? =some oi)(hsi:(cR oi.op=true/\mI ops oi=false)\/pB oi=true):
  ∀(fuel:Nat) (listed:Array Bool) (st s:St),eH ops listed->
   (∀j oj,ops[j]? =some oj->j≠i->listed.getD j true=false->gL ops ops.size j i=false->oi.apart ops oj=true/\qC ops oi oj=true)->
   i∈Region.ready .any ops listed->qE ops listed st->Eff P G ops oi st s->
   b3L P G ops Q fuel (listed.setIfInBounds i true) s->b3L P G ops Q (fuel+1) listed st:=by
 intro fuel
 induction fuel with
 |zero=>
  intro listed st s _ _ hr _ hy H;refine⟨λh=>(by rw[h]at hr;cases hr),λj hj=>?_⟩;by_cases zV:j=i
  .subst zV;rw[hi];exact(dF hsi).2 ⟨s,hy,H⟩
  .have:=ready_mono hj zV;rw[H.1]at this;cases this
 |succ fuel ih=>
  intro listed st s oI yK hr hI hy H;refine⟨λh=>(by rw[h]at hr;cases hr),λj hj=>?_⟩;by_cases zV:j=i
  .subst zV;rw[hi];exact(dF hsi).2 ⟨s,hy,H⟩
  .have h1:=H.2 j (ready_mono hj zV);obtain⟨wY,oj,zB,dB⟩:=mem_ready.1 hj;rw[zB]at h1|-;simp only at h1|-;obtain⟨a2c,oi',b9G,a8Z⟩:=mem_ready.1 hr;have a4w:gL ops ops.size j i=false:=cV oI a2c _ _ λo ho=>by rw[zB]at ho;cases ho;exact dB
   obtain⟨yV,hpo⟩:=yK j oj zB zV wY a4w;have hsj:(cR oj.op=true/\mI ops oj=false)\/pB oj=true:=by
    by_cases hs:pB oj=true
    .exact .inr hs
    .refine .inl ⟨?_,?_⟩
     .unfold qC at hpo;simp only[pB,f7T,f7H,Bool.not_eq_true']at hpo hs;rcases hpo with((((((h|h)|h)|h)|h)|h)|h)|h
      .exact h.1.2
      .exact absurd (.inl (.inl h.1.2)) hs
      .exact h.1.1.2
      .exact absurd (.inl (.inr h.2)) hs
      .exact h.1.2
      .exact absurd (.inl h.1.2) hs
      .exact absurd (.inr h.2) hs
      .exact(oA (G:=G) (st:=st) h.1.2).1
     .cases hx:mI ops oj with
      |false=>rfl
      |true=>
       have aE:i<ops.size:=(f7Q.1 hi).1;rcases uM hx zB aE (λe=>zV e.symm)with h'|h'
       .have:=cV oI wY ops.size i λo ho=>by rw[b9G]at ho;cases ho;exact a8Z
        rw[h']at this;cases this
       .rw[a4w]at h';cases h'
   obtain⟨s12,hu,hk⟩:=(dF hsj).1 h1;obtain⟨s2,e1,e2⟩:=a8Y yV hpo (λhn d hd=>hI i oi d hi hn a2c hd) (λhn d hd=>hI j oj d zB hn wY hd) hy hu;refine(dF hsj).2 ⟨s2,e1,?_⟩;refine ih (listed.setIfInBounds j true) s2 s12 (oI.set hj) (λk ok hk' hki hun sG=>?_) (ready_mono hr (Ne.symm zV)) (hI.step hA zB λk hf hn=>tS e1 hf hn) e2 ?_
   .exact yK k ok hk' hki (sZ hun).2 sG
   .rw[Array.setIfInBounds_comm _ _ zV];exact hk
theorem b3P{o:Oper}{k:Nat}{t:TypeId}{m kk v:Operand}(ho:o.op=.mapUpdate t m kk v)(hf:cC k st=true)(h:mH P G o st=some out):cC k out.st=true/\mentions k out.v=false:=by
 obtain⟨h1,h2,h3⟩:=mJ hf;simp only[mH,ho,a0t]at h;split at h
 .rename_i key _ _ hm _ _;split at h
  .obtain⟨es,_,rfl⟩:=f7G.1 h;refine⟨a0G h1 (λp hp=>?_) h3,rfl⟩;rcases a4W hp with rfl|hp
   .exact⟨λe=>by have:=sY (G:=G) hf m;rw[hm]at this;simp only[mentions,beq_eq_false_iff_ne,ne_eq]at this;exact this e,rfl⟩
   .exact h2 p hp
  .cases h
 .cases h
theorem b7W{all:Array Oper}{o:Oper}{K:St->Prop}(eF:eG all≠[])(ht:c9e all o=true)(h:pA P G true all o K st):pA P G true all o (λs=>K s/\∀k,cC k st=true->(dZ o=true->o.dst≠some k)->cC k s=true) st:=by
 unfold c9e at ht;have hsq:rU true all o=true:=by
  cases hk:eG all with
  |nil=>exact absurd hk eF
  |cons k r=>simp[rU,hk]
 by_cases hs:pB o=true
 .obtain⟨s,h1,h2⟩:=(dF (.inr hs)).1 h;exact(dF (.inr hs)).2 ⟨s,h1,h2,λk hf hn=>tS h1 hf hn⟩
 .unfold pA at h|-;split
  .rename_i hw;rw[hw]at h;simp only at h;split
   .rename_i f ds hc;rw[hc]at h;rcases h with⟨r,own,h1,h3,h2⟩|⟨h0,s',h1,h2⟩
    .exact .inl ⟨r,own,h1,λ_=>h3 (by trivial),h2,λk hf _=>bZ hf (zT (h3 (by trivial)))⟩
    .rw[hsq]at h0;cases h0
   .rename_i hc;rw[hc]at h;simp only at h;split
    .rename_i f f7F yW;rw[yW]at h;simp only[a1A]at h|-;rw[hsq]at h|-;simp only[if_true]at h|-;obtain⟨d,ks,h1,h2⟩:=h;exact⟨d,ks,h1,h2,λk hf _=>bZ hf (zT h1.2.2.2.2)⟩
    .rename_i yW;rw[yW]at h;simp only at h;split
     .rename_i out ho;rw[ho]at h;refine⟨h,λk hf _=>?_⟩;have b7X:cC k out.st=true/\mentions k out.v=false:=by
       simp only[pB,f7T]at ht hs;rcases ht with((hq|ha)|hn)|mD
       .rw[c2i hq ho];exact⟨hf,c2o hq hf ho⟩
       .exact absurd (.inl (.inl ha)) hs
       .exact absurd (.inl (.inr hn)) hs
       .split at mD
        .rename_i tO;exact b3O tO hf ho
        .rename_i tO;exact b3P tO hf ho
        .cases mD
      exact bZ b7X.1 b7X.2
     .rename_i ho;rw[ho]at h;exact h
  .rename_i hw;rw[hw]at h;exact⟨h,λk hf _=>bZ hf rfl⟩
  .rename_i hw;rw[hw]at h;exact h
theorem c2s{ops:Array Oper}{Q:St->Prop}(hA:pJ ops)(hT:eG ops=[]\/∀o∈ops.toList,c9e ops o=true):∀(l:List Oper) (k:Nat) (listed:Array Bool) (st:St),(∀j,l[j]? =ops[k+j]?)->eH ops listed->qE ops listed st->
  lexFrom ops l.length k listed=true->uL P G true ops l st Q->b3L P G ops Q l.length listed st
 |[],_,_,_,_,_,_,hB,h=>⟨by simpa[lexFrom]using hB,h⟩
 |o::l,k,listed,st,hl,oI,hI,hB,h=>by
  have h0:ops[k]? =some o:=by simpa using (hl 0).symm
  simp only[List.length_cons,lexFrom,f7H,h0]at hB;obtain⟨⟨hr,hf⟩,hB'⟩:=hB;have hrk:k∈Region.ready .any ops listed:=by simpa using hr
  have qR:∀s,qE ops (listed.setIfInBounds k true) s->uL P G true ops l s Q->b3L P G ops Q l.length (listed.setIfInBounds k true) s:=λs hs h=>c2s hA hT l (k+1) _ s (λj=>by have:=hl (j+1);simpa[Nat.add_assoc,Nat.add_comm 1 j]using this) (oI.set hrk) hs hB' h
  have b3B:∀j oj,ops[j]? =some oj->j≠k->listed.getD j true=false->gL ops ops.size j k=false->o.apart ops oj=true/\qC ops o oj=true:=by intro j oj hj eF hun sG;rw[f7K]at hf;have h1:=hf j (List.mem_range.2 (f7Q.1 hj).1);simp only[hj,f7T,beq_iff_eq,eF,false_or,hun,Bool.false_eq_true,sG,f7H]at h1;exact h1
  have only:(∀j oj,ops[j]? =some oj->j≠k->listed.getD j true=false->gL ops ops.size j k=false->False)->b3L P G ops Q (l.length+1) listed st:=λsG=>by
   refine⟨λh'=>(by rw[h']at hrk;cases hrk),λj hj=>?_⟩;by_cases hjk:j=k
   .subst hjk;rw[h0];have b7X:pA P G true ops o (λs=>uL P G true ops l s Q/\qE ops (listed.setIfInBounds j true) s) st:=by
     by_cases hT0:eG ops=[]
     .refine eU (λs hs=>⟨hs,λi oi d hi hn _ hd=>?_⟩) h;have:d∈eG ops:=List.mem_filterMap.2 ⟨oi,by rw[Array.mem_toList_iff];exact Array.mem_of_getElem? hi,by rw[if_pos hn];exact hd⟩;rw[hT0]at this;cases this
     .have hT:=hT.resolve_left hT0;refine eU (λs hs=>⟨hs.1,hI.step hA h0 hs.2⟩) (b7W hT0 (hT o (by rw[Array.mem_toList_iff];exact Array.mem_of_getElem? h0)) h)
    exact eU (λs hs=>qR s hs.2 hs.1) b7X
   .obtain⟨wY,oj,zB,dB⟩:=mem_ready.1 hj;have a4w:gL ops ops.size j k=false:=cV oI (mem_ready.1 hrk).1 _ _ λo' uI=>by rw[zB]at uI;cases uI;exact dB
    exact(sG j oj zB hjk wY a4w).elim
  by_cases hs:(cR o.op=true/\mI ops o=false)\/pB o=true
  .obtain⟨s,hd,hk⟩:=(dF hs).1 h;exact c5S hA h0 hs l.length listed st s oI (λj oj hj eF hun sG=>b3B j oj hj eF hun sG) hrk hI hd (qR _ (hI.step hA h0 λk hf hn=>tS hd hf hn) hk)
  .refine only λj oj hj eF hun sG=>?_;obtain⟨_,hpo⟩:=b3B j oj hj eF hun sG;cases hal:mI ops o with
   |true=>
    obtain⟨_,ok,mP,d2f⟩:=mem_ready.1 hrk;have d2g:gL ops ops.size k j=false:=cV oI hun _ _ λo' uI=>by rw[mP]at uI;cases uI;exact d2f
    rcases uM hal h0 (f7Q.1 hj).1 eF with h'|h'
    .rw[sG]at h';cases h'
    .rw[d2g]at h';cases h'
   |false=>
    unfold qC at hpo;simp only[pB,f7T,f7H,Bool.not_eq_true']at hpo hs;rcases hpo with((((((h'|h')|h')|h')|h')|h')|h')|h'
    .exact hs (.inl ⟨h'.1.1,hal⟩)
    .exact hs (.inl ⟨h'.1.1,hal⟩)
    .exact hs (.inr (.inl (.inl h'.1.1.1)))
    .exact hs (.inl ⟨h'.1,hal⟩)
    .exact hs (.inr (.inl (.inr h'.1.1)))
    .exact hs (.inr (.inl h'.1.1))
    .exact hs (.inl ⟨(oA (G:=G) (st:=st) h'.1.1).1,hal⟩)
    .exact hs (.inr (.inr h'.1.1))
theorem Rel.drew(hr:Rel P G base R μ st a w):Rel P G base R μ st a w.drew/\Step base R w R w.drew:=
 have hs:Step base R w R w.drew:=⟨(a0w.refl _ _).drew,λ_ _ h=>h,λ_ _ h h'=>absurd h h',λ_ _ _=>rfl⟩
 ⟨hr.step hs (λ_ _=>rfl) (λ_ _ h h'=>absurd h h') hr.pH,hs⟩
theorem b3Q{α β:Type}{f:α->Option β}:∀ {l:List α},(l.filterMap f).Nodup->∀(i j:Nat) {x y:α} {d:β},l[i]? =some x->l[j]? =some y->f x=some d->f y=some d->i=j
 |z::r,hn,i,j,x,y,d,hi,hj,hx,hy=>by
  have tl:(r.filterMap f).Nodup:=by
   rw[List.filterMap_cons]at hn;split at hn
   .exact hn
   .exact(List.nodup_cons.1 hn).2
  have no:∀ {k:Nat} {w:α},f z=some d->r[k]? =some w->f w=some d->False:=λhz hk hw=>by rw[List.filterMap_cons,hz]at hn;exact(List.nodup_cons.1 hn).1 (List.mem_filterMap.2 ⟨_,f7M hk,hw⟩)
  cases i with
  |zero=>
   simp at hi;subst hi;cases j with
   |zero=>rfl
   |succ j=>exact(no hx (by simpa using hj) hy).elim
  |succ i=>
   cases j with
   |zero=>simp at hj;subst hj;exact(no hy (by simpa using hi) hx).elim
   |succ j=>rw[b3Q tl i j (by simpa using hi) (by simpa using hj) hx hy]
theorem b6P{id:Nat}{ops:Array Oper}{Q:Exit->St->Prop}(hm:P.follows .mixedOrders=true)(hB:d2a ops=true)(hF:b0E ops st=true)(h:uL P G true ops ops.toList st λs=>Q .normal s):SW P G (.region id ops true) st Q:=by
 intro base R μ a w hr;obtain⟨eM,qP⟩:=hr.drew;unfold d2a at hB;rw[f7H]at hB;obtain⟨hN,hB⟩:=hB;rw[f7T,List.isEmpty_iff,f7H,f7K,decide_eq_true_eq]at hN;have mem:∀ {i oi d},ops[i]? =some oi->dZ oi=true->oi.dst=some d->d∈eG ops:=λhi hn hd=>List.mem_filterMap.2 ⟨_,by rw[Array.mem_toList_iff];exact Array.mem_of_getElem? hi,by rw[if_pos hn];exact hd⟩;have hA:pJ ops:=λi j oi oj d hi hj hni hnj hdi hdj=>by
  rcases hN with hN|⟨_,hN⟩
  .have:=mem hi hni hdi;rw[hN]at this;cases this
  .exact b3Q (l:=ops.toList) (f:=λo=>if dZ o then o.dst else none) hN i j (by simpa using hi) (by simpa using hj) (by rw[if_pos hni];exact hdi) (by rw[if_pos hnj];exact hdj)
 have hI:qE ops (Array.replicate ops.size false) st:=λj oj d hj hn _ hd=>f7K.1 hF d (mem hj hn hd);have h1:=c2s hA (hN.imp (λh=>h) (λh=>h.1)) ops.toList 0 (Array.replicate ops.size false) st (by simp) (λk hk=>by
  rcases Nat.lt_or_ge k ops.size with h'|h'
  .simp[h']at hk
  .simp[Nat.not_lt.2 h']at hk) hI (by simpa using hB) h
 rw[show ops.toList.length=ops.size by simp]at h1;exact wp_region_any hm (b3e ops.size _ st h1 base R μ a w.drew eM λs a' w' R' μ' q1 q2 q3=>⟨s,R',μ',q1,q2,qP.trans q3⟩)
theorem a4f:∀(c:Code) (st:St) (Q:Exit->St->Prop),VW P G c st Q->SW P G c st Q
 | .skip,st,Q,h=>λbase R μ a w hr=>wp_skip ⟨st,R,μ,h,hr,.refl _ _ _⟩
 | .region id ops draw,st,Q,h=>by
  unfold VW at h;cases draw with
  |true=>exact b6P (h.1 rfl).1 (h.1 rfl).2.1 (h.1 rfl).2.2 h.2
  |false=>
   replace h:=h.2
   exact λbase R μ a w hr=>wp_region_list (b9B ops _ ops.toList st _ h base R μ a w hr λs a' w' R' μ' q1 q2 q3=>⟨s,R',μ',q1,q2,q3⟩)
 | .seq x y,st,Q,h=>λbase R μ a w hr=>wp_seq (wp_mono (a4f x st _ h base R μ a w hr) λe a1 w1 ⟨s,R1,μ1,q1,q2,q3⟩=>by
   cases e with
   |normal=>exact wp_mono (a4f y s Q q1 base R1 μ1 a1 w1 q2) λe2 a2 w2 ⟨s2,R2,μ2,p1,p2,p3⟩=>⟨s2,R2,μ2,p1,p2,q3.trans p3⟩
   |_=>exact⟨s,R1,μ1,q1,q2,q3⟩)
 | .cond c x y,st,Q,h=>λbase R μ a w hr=>by
  unfold VW at h;split at h
  .rename_i t hc;refine wp_cond (hr.a0y hc) ?_;cases t
   .exact a4f y st Q h base R μ a w hr
   .exact a4f x st Q h base R μ a w hr
  .rename_i hc;obtain⟨t,ht⟩:=hr.c7G hc;refine wp_cond ht ?_;cases t
   .exact a4f y st Q h.2 base R μ a w hr
   .exact a4f x st Q h.1 base R μ a w hr
  .cases h
 | .block id c,st,Q,h=>λbase R μ a w hr=>wp_block (wp_mono (a4f c st _ h base R μ a w hr) λe a1 w1 ⟨s,R1,μ1,q1,q2,q3⟩=>by
   cases e with
   |exit id'=>
    simp only[Exit.inBlock];simp only at q1;by_cases hid:id'=id
    .rw[if_pos hid]at q1|-;exact⟨s,R1,μ1,q1,q2,q3⟩
    .rw[if_neg hid]at q1|-;exact⟨s,R1,μ1,q1,q2,q3⟩
   |_=>exact⟨s,R1,μ1,q1,q2,q3⟩)
 | .loop c,st,Q,h=>h
 | .exit id,st,Q,h=>λbase R μ a w hr=>wp_exit ⟨st,R,μ,h,hr,.refl _ _ _⟩
 | .ret,st,Q,h=>λbase R μ a w hr=>wp_ret ⟨st,R,μ,h,hr,.refl _ _ _⟩
 | .rangeFunc ..,_,_,h=>by simp[VW]at h
 | .scope c,st,Q,h=>λbase R μ a w hr=>wp_scope_straight (wp_mono (a4f c st _ h base R μ a w hr) λe a1 w1 ⟨s,R1,μ1,q1,q2,q3⟩=>by
   cases e with
   |goto l=>exact q1.elim
   |_=>exact⟨s,R1,μ1,q1,q2,q3⟩)
 | .label l,st,Q,h=>λbase R μ a w hr=>wp_label ⟨st,R,μ,h,hr,.refl _ _ _⟩
 | .goto ..,_,_,h=>by simp[VW]at h
end
end Go.VM
end
