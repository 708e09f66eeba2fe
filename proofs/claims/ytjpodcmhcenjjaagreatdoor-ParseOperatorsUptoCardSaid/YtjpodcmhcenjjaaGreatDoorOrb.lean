/- Lemmas that the law of this claim needs (Z2 ZF Ty Z4 Z3 Z6 Z7 ZL Up Z8). No condition. -/
import Derived.Test.YtjpodcmhcenjjaaGreatDoorOra
import Derived.Deep.LoopGhost
import Derived.Orders
import Derived.Scope
import Derived.KernelRfl
import Derived.Test.YtjpodcmhcenjjaaGreatDoorProg
import Derived.ReadAgain
import Derived.ChangeSame
import Derived.OpenShut
import Derived.RowKit3
import Derived.Lib.ItoaNum
import Derived.Lib.LaidTab
import Derived.WalkSmall
import Derived.Deep.Draws
import Derived.Lib.Join
import Derived.Sort.Grow
import Derived.Shelf.Strings.Builder1
import Derived.Shelf.Strings.Builder2
import Derived.Shelf.Strings.OnBuilder
import Derived.Shelf.Strings.Trim
import Derived.Shelf.Small.Utf8
import Derived.Shelf.Small.Strs
import Derived.Shelf.Strings.BuilderF
import Derived.Shelf.Strings.BuilderK
import Derived.Shelf.Strings.Search1
import Derived.Shelf.Strings.Prefix
import Derived.Shelf.Strings.Runes
import Derived.Shelf.Strings.AsciiSet
import Derived.Shelf.Unicode.DecodeSlow
import Derived.Lib.ItoaLen
import Derived.Lib.MapLaws
import Derived.Test.YtjpodcmhcenjjaaGreatDoorRows
set_option linter.unusedVariables false
set_option linter.unusedSimpArgs false
set_option linter.unusedSectionVars false
set_option maxRecDepth 100000
set_option maxHeartbeats 64000000
section
namespace Go.VM
open Go Go.RowKit
section
variable {P:Program} {G:GT} {st:St} {out:Out}
variable {base:cZ} {R R':Nat→Nat→Prop} {μ:Nat→Nat} {a:Act} {w w':World}
theorem c8r {o:Oper}{x y:Operand}{ts:Array TypeId}(ho:o.op= .call { callee:= .builtin .max,args:= #[x,y],argTypes:=ts })(h:c1L G x y st=some out):pK P G o st out:=by
 unfold c1L at h;split at h
 ·rename_i k a k' b hx hy;simp only [d8J] at h;subst h;refine bK fun base R μ a w hr=>⟨_,?_,.d _ _ (.int _ _),trivial⟩
  simp [execOp,ho,resolve,invoke,builtin,Builtin.max_,Builtin.max2,hr.sR hx,hr.sR hy]
 ·cases h
theorem c8s {o:Oper}{x y:Operand}{ts:Array TypeId}(ho:o.op= .call { callee:= .builtin .min,args:= #[x,y],argTypes:=ts })(h:c1M G x y st=some out):pK P G o st out:=by
 unfold c1M at h;split at h
 ·rename_i k a k' b hx hy;simp only [d8J] at h;subst h;refine bK fun base R μ a w hr=>⟨_,?_,.d _ _ (.int _ _),trivial⟩
  simp [execOp,ho,resolve,invoke,builtin,Builtin.min_,Builtin.min2,hr.sR hx,hr.sR hy]
 ·cases h
theorem b5Q {o:Oper}{b:Builtin}{args:Array Operand}{ts:Array TypeId}(ho:o.op= .call { callee:= .builtin b,args:=args,argTypes:=ts })(h:pZ P G b args.toList ts.toList st=some out):pK P G o st out:=by
 obtain ⟨args⟩:=args;obtain ⟨ts⟩:=ts;simp only at h;unfold pZ at h;split at h
 ·exact c8o ho h
 ·exact b8J ho h
 ·exact b8I ho rfl h
 ·exact c8r ho h
 ·exact c8s ho h
 ·cases h
theorem b3P {o:Oper}{fn:Fn}{first captured:Array Operand}(ho:o.op= .makeFunc fn first captured)(h:a2P G fn first captured st=some out):pK P G o st out:=by
 unfold a2P at h;split at h
 ·rename_i f;split at h
  ·rename_i hf;simp only [d8J] at h;subst h;have hf':first= #[]:=by simpa using hf
   refine bK fun base R μ a w hr=>⟨.func (.func f) #[] (captured.map a.eval),by simp [execOp,ho,Instr.makeFunc,hf'],?_,trivial⟩
   split
   ·rename_i hc;have hc':captured= #[]:=by simpa using hc
    subst hc';rw [show Array.map a.eval #[]= #[] by simp];exact .fn f
   ·refine .zT f _ _ (by simp) fun i c hi=>?_
    rw [d8N] at hi;obtain ⟨x,hx,rfl⟩:=d8C.1 hi;have:(captured.map a.eval).getD i Go.undef=a.eval x:=by
     have hx':captured[i]? =some x:=by simpa using hx
     simp [d8F,hx']
    rw [this];exact hr.eval x
  ·cases h
 ·cases h
theorem d2W {o:Oper}(h:jO P G o st=some out):pK P G o st out:=by
 unfold jO at h;split at h
 ·exact b5F (.inl ‹_›) h
 ·exact b5F (.inr ‹_›) h
 ·exact c3W ‹_› h
 ·exact b2p ‹_› h
 ·exact c8q ‹_› h
 ·exact b2o ‹_› h
 ·exact a8W ‹_› h
 ·exact b5G ‹_› h
 ·exact a2S ‹_› h
 ·exact b3M ‹_› h
 ·exact c3Y ‹_› h
 ·exact d2V ‹_› h
 ·exact c4a ‹_› h
 ·exact b5M ‹_› h
 ·exact b3P ‹_› h
 ·exact b8E ‹_› h
 ·exact b1w ‹_› h
 ·exact b5H ‹_› h
 ·exact c1O ‹_› h
 ·exact c1P ‹_› h
 ·exact b1s ‹_› h
 ·exact b1t ‹_› h
 ·exact c1R ‹_› h
 ·exact c1T ‹_› h
 ·exact c4c ‹_› h
 ·exact b5Q ‹_› h
 ·cases h
end
section
variable (P:Program) (G:GT)
def a1M:Option TypeId→OA
 |some e=> .fresh e
 |none=> .no
def Enters (f:FuncId):Prop:=∃fn,P.funcs[f]? =some fn∧fn.body.isNone=false∧(fn.name== "runtime.NumGoroutine")=false
def dA:Op→Bool
 | .move _| .assign _| .pick _ _ _| .build _ _| .buildSlice _ _ _| .load _ _| .nilCheck _| .binOp _ _ _ _ _| .unOp _ _ _| .convert _ _ _| .lookup _ _ _ _| .extract _ _| .field _ _ _| .index _ _ _| .indexAddr _ _ _| .fieldAddr _ _ _| .slice _ _ _ _ _=>true
 | .call { callee:= .value _, .. }=>true
 | .call { callee:= .builtin .len, .. }=>true
 | .call { callee:= .builtin .max, .. }=>true
 | .call { callee:= .builtin .min, .. }=>true
 |_=>false
def yI:List Oper→List Tmp
 |[]=>[]
 |o::r=>match o.op with
  | .call { callee:= .builtin .append,args, .. }=>match args.toList with
   | .tmp i::_=>i::yI r
   |_=>yI r
  |_=>yI r
def a8v:List Oper→List Tmp
 |[]=>[]
 |o::r=>match o.op,o.dst with
  | .call { callee:= .builtin .append, .. },some i=>i::a8v r
  |_,_=>a8v r
def rD (all:Array Oper)(o:Oper):Bool:=
 match o.guard,o.op,o.dst with
 |none,.move (.tmp j),some i=>j !=i&&(yI all.toList).contains i
 |none,.assign (.tmp j),some i=>j !=i&&(a8v all.toList).contains j
 |none,.load _ (.tmp _),some i=>(yI all.toList).contains i
 |none,.call { callee:= .value _, .. },some i=>(yI all.toList).contains i
 |none,.buildSlice _ _ _,some i=>(yI all.toList).contains i
 |_,_,_=>false
def a3r (all:Array Oper)(o:Oper)(act:OA):OA:=if rD all o then act else .no
def a5a (q:Bool)(all:Array Oper)(o:Oper)(_:DV)(act:OA):OA:=if q&&dA o.op then a3r all o act else act
def mC (f:FuncId)(d8B:List DV)(ls:List (Option Loc))(st:St)(dst:Option Tmp)(s':St):Prop:=
 ∀(base:cZ) (R:Nat→Nat→Prop) (μ:Nat→Nat) (a:Act) (w:World) (args:Array Value),Rel P G base R μ st a w→args.size=d8B.length→(∀(i:Nat) (d:DV),d8B[i]? =some d→TV R μ w (args.getD i undef) d)→
  (∀(i:Nat) (l:Loc),ls[i]? =some (some l)→∀u,cE a w μ l=some u→u=args.getD i undef)→
  Calls P f args w fun e w'=>∃v R' μ',e= .returned v∧Rel P G base R' μ' s' (a.put dst v) w'∧Step base R w R' w'
def rowsOf:List Oper→Nat→List Nat→List Nat
 |[],_,rows=>rows
 |o::r,n,rows=>Nat.rec (rowsOf r (n+1) (0::rows)) (fun m _=>rowsOf r (n+1) (Nat.succ m::rows)) (o.after.toList.foldl (fun acc e=>if Region.binds .any e=true∧e.on<n then acc |||((1 <<<e.on) |||rows.getD (n-1-e.on) 0) else acc) 0)
def gL (ops:Array Oper)(_ j i:Nat):Bool:=decide (j<ops.size)&&((rowsOf ops.toList 0 []).getD (ops.size-1-j) 0).testBit i
def kB (all:Array Oper)(o:Oper):Bool:=(List.range all.size).all fun k=>match all[k]? with
 |some o'=>o'.dst !=o.dst||(List.range all.size).all fun j=>j==k||gL all all.size j k||gL all all.size k j
 |none=>true
def c4d (ks:List Nat):Loc→Bool
 | .c k _=> !ks.contains k
 | .t _=>true
def jQ (ks:List Nat)(own:List (TypeId×List Loc)):Bool:=own.all fun c=>c.2.all (c4d ks)
def pO:DV→Bool
 | .ptr _ _=>false
 | .mp _=>false
 | .it _=>false
 | .zT _ _=>false
 | .ag _=>false
 |_=>true
def RO (f:FuncId)(d8B:List DV)(ks:List Nat)(H:List (Nat×aZ))(d:DV):Prop:=
 ∀st:St,(∀k∈ks,getKey k st.H=getKey k H)→jQ ks st.own=true→∀dst ls,mC P G f d8B ls st dst (finish st dst d .no)
def yJ (ro:Bool)(f:FuncId)(d8B:List DV)(ls:List (Option Loc))(dst:Option Tmp)(st:St)(K:St→Prop):Prop:=
 if ro=true then ∃d ks,(Enters P f∧RO P G f d8B ks st.H d∧jQ ks st.own=true∧(ks.all fun k=>(getKey k st.H).isSome)=true∧pO d=true)∧K (finish st dst d .no)
 else ∃s',(Enters P f∧mC P G f d8B ls st dst s')∧K s'
def eL (o:Oper):Bool:=match o.op,o.dst with
 | .alloc _,some _=>true
 |_,_=>false
def eQ (ops:Array Oper):List Nat:=ops.toList.filterMap fun o=>if eL o then o.dst else none
def pP (q:Bool)(all:Array Oper)(o:Oper):Bool:=q&&(!kB all o|| !(eQ all).isEmpty)
def kO (q:Bool)(all:Array Oper)(o:Oper)(K:St→Prop)(st:St):Prop:=
 match eA o all st.tmps with
 |some true=>
  match gP G o st with
  |some (f,ds)=>(∃r own,(Enters P f∧CS P G f ds r own)∧(q=true→pO r=true)∧K (finish st o.dst r (if q&& !rD all o then .no else a1M own)))∨
   (pP q all o=false∧∃s',(Enters P f∧mC P G f (ds.map .d) (jH o) st o.dst s')∧K s')
  |none=>
   match dD G o st with
   |some (f,d8B)=>yJ P G (pP q all o) f d8B (jH o) o.dst st K
   |none=>
    match jO P G o st with
    |some out=>K (finish out.st o.dst out.v (a5a q all o out.v out.act))
    |none=>False
 |some false=>K (finish st o.dst (.cT []) .no)
 |none=>False
def rF (q:Bool)(all:Array Oper):List Oper→St→(St→Prop)→Prop
 |[],st,K=>K st
 |o::rest,st,K=>kO P G q all o (fun s=>rF q all rest s K) st
def a0A (o:Oper):Bool:=match o.op with
 | .call { callee:= .value _, .. }=>true
 |_=>false
def isApp (o:Oper):Bool:=match o.op with
 | .call { callee:= .builtin .append, .. }=>true
 |_=>false
def a7X (o:Oper):Bool:=match o.op,o.dst with
 | .store _ _ _,none=>true
 |_,_=>false
def a4i:Op→Bool
 | .move _| .assign _| .pick _ _ _| .nilCheck _| .binOp _ _ _ _ _| .unOp _ _ _| .convert _ _ _| .extract _ _| .field _ _ _| .index _ _ _| .indexAddr _ _ _| .fieldAddr _ _ _| .slice _ _ _ _ _=>true
 |_=>false
def mS (o:Oper):Bool:=isApp o||eL o||a7X o
def c1U (all:Array Oper)(o:Oper):Bool:=(dA o.op||isApp o||eL o||(match o.op with
 | .store _ _ _=>true
 | .mapUpdate _ _ _ _=>true
 |_=>false))
def oS (all:Array Oper)(x y:Oper):Bool:=(dA x.op&&dA y.op&& !(rD all x&&rD all y))||(dA x.op&&isApp y&& !rD all x)||(isApp x&&dA y.op&& !rD all y&& !a0A y)||(dA x.op&&eL y)||(eL x&&dA y.op&& !a0A y)||((isApp x||eL x)&&(isApp y||eL y)&&(eL x||eL y))||(a4i x.op&& !rD all x&&a7X y)||(a7X x&&a4i y.op&& !rD all y)
def qM (k:Nat):aZ→Bool
 | .cells cs=>cs.all fun c=> !mentions k c
 |_=>true
def cF (k:Nat)(st:St):Bool:=(st.tmps.all fun v=> !mentions k v)&&(st.H.all fun p=>p.1 !=k&&qM k p.2)&&(st.own.all fun c=>c.2.all fun l=> !l.uW k)
def a6n (ops:Array Oper)(st:St):Bool:=(eQ ops).all fun k=>cF k st
def lexFrom (ops:Array Oper):Nat→Nat→Array Bool→Bool
 |0,_,listed=>(Region.ready .any ops listed).isEmpty
 |fuel+1,k,listed=>(Region.ready .any ops listed).contains k&&
  (match ops[k]? with
  |none=>false
  |some oi=>
   (List.range ops.size).all fun j=>j==k||listed.getD j true||gL ops ops.size j k||(match ops[j]? with
    |some oj=>oi.apart ops oj&&oS ops oi oj
    |none=>true))&&
  lexFrom ops fuel (k+1) (listed.setIfInBounds k true)
def c4e (ops:Array Oper):Bool:=((eQ ops).isEmpty||(ops.toList.all (c1U ops)&&decide ((eQ ops).Nodup)))&&lexFrom ops ops.size 0 (Array.replicate ops.size false)
def VW:Code→St→(Exit→St→Prop)→Prop
 | .skip,st,Q=>Q .normal st
 | .region _ ops draw,st,Q=>(draw=true→P.follows .mixedOrders=true∧c4e ops=true∧a6n ops st=true)∧rF P G draw ops ops.toList st fun s=>Q .normal s
 | .seq x y,st,Q=>VW x st fun e s=>match e with
  | .normal=>VW y s Q
  |e=>Q e s
 | .cond c x y,st,Q=>
  match st.eval G c with
  | .d (.bool t)=>if t then VW x st Q else VW y st Q
  | .oN=>VW x st Q∧VW y st Q
  |_=>False
 | .block id c,st,Q=>VW c st fun e s=>match e with
  | .exit id'=>if id'=id then Q .normal s else Q (.exit id') s
  |e=>Q e s
 | .loop c,st,Q=>SW P G (.loop c) st Q
 | .exit id,st,Q=>Q (.exit id) st
 | .ret,st,Q=>Q .ret st
 | .label _,st,Q=>Q .normal st
 | .scope c,st,Q=>VW c st fun e s=>match e with
  | .goto _=>False
  |e=>Q e s
 |_,_,_=>False
end
section
variable {P:Program} {G:GT} {st:St} {out:Out}
variable {base:cZ} {R R':Nat→Nat→Prop} {μ:Nat→Nat} {a:Act} {w w':World}
theorem SW.mono {c:Code}{Q Q':Exit→St→Prop}(hq:∀e s,Q e s→Q' e s)(h:SW P G c st Q):SW P G c st Q':=fun base R μ a w hr=>wp_mono (h base R μ a w hr) fun _ _ _ ⟨st',R',μ',q,r,s⟩=>⟨st',R',μ',hq _ _ q,r,s⟩
theorem zY (hr:Rel P G base R μ st a w){o:Oper}{all:Array Oper}{b:Bool}(h:eA o all st.tmps=some b):Region.wanted o (yielded all a.tmps)=b:=by
 unfold eA at h;unfold Region.wanted;split at h
 ·rename_i hg;rw [hg];simpa using h
 ·rename_i j want hg;rw [hg];simp only;unfold rK at h;unfold yielded;cases hd:(all[j]?).bind (·.dst) with
  |none=>rw [hd] at h;simp at h;subst h;rfl
  |some t=>
   rw [hd] at h;simp only [Option.bind_some] at h ⊢;by_cases ht:t<a.tmps.size
   ·have h1:a.tmps[t]? =some a.tmps[t]:=d8V ht
    have ht':t<st.tmps.length:=by rw [← hr.size];exact ht
    have h2:st.tmps[t]? =some st.tmps[t]:=d8H ht'
    have hv:=hr.tmps t _ _ h1 h2;rw [h2] at h;simp only [Option.getD_some] at h;rw [h1];generalize a.tmps[t]=v at *;generalize st.tmps[t]=d at *;cases hv with
    |undef=>cases h
    |oN=>cases h
    |d v x hx=>
     cases hx with
     |bool b'=>simp at h;subst h;cases b'<;>cases want<;>rfl
     |_=>simp at h;subst h;rfl
    |_=>simp at h;subst h;rfl
   ·have h1:a.tmps[t]? =none:=Array.getElem?_eq_none (Nat.le_of_not_lt ht)
    have h2:st.tmps[t]? =none:=List.getElem?_eq_none (by rw [← hr.size];exact Nat.le_of_not_lt ht)
    rw [h2] at h;simp at h;subst h;rw [h1]
    rfl
theorem b2t (hr:Rel P G base R μ st a w):∀ {l:List Operand} {ds:List D},tO (l.map (st.eval G))=some ds→l.length=ds.length∧∀(i:Nat) (d:D),ds[i]? =some d→V R w ((l.map a.eval).getD i undef) d
 |[],ds,h=>by simp [tO] at h;subst h;simp
 |x::l,ds,h=>by
  simp only [List.map_cons] at h;cases hx:st.eval G x with
  |d y=>
   rw [hx] at h;simp only [tO] at h;split at h<;>simp at h;rename_i ds' hds;subst h;obtain ⟨h1,h2⟩:=b2t hr hds;refine ⟨by simp [h1],fun i d hi=>?_⟩;cases i with
   |zero=>simp at hi;subst hi;exact hr.jF hx
   |succ i=>simp at hi;simpa using h2 i d hi
  |_=>rw [hx] at h;simp [tO] at h
theorem c0I {o:Oper}{f:FuncId}{ds:List D}{r:DV}{own:Option TypeId}(hc:gP G o st=some (f,ds))(hcs:Enters P f∧CS P G f ds r own)(hr:Rel P G base R μ st a w){K:Act→World→Prop}{Q:Exit→Act→World→Prop}(h:∀v R' w',Rel P G base R' μ (finish st o.dst r (a1M own)) (a.put o.dst v) w'→Step base R w R' w'→K (a.put o.dst v) w'):o.wp P a w K Q:=by
 unfold gP at hc;split at hc
 ·rename_i x args ts hop;split at hc
  ·rename_i f' ds' hx hds;simp at hc;obtain ⟨rfl,rfl⟩:=hc;obtain ⟨⟨fn,hf1,hf2,hf3⟩,hcs⟩:=hcs;obtain ⟨hl,hv⟩:=b2t hr hds;have hexec:(execOp a.eval o).run P w= .ok (.enter f' (args.map a.eval)) w:=by
    have hf2': ¬fn.body=none:=fun he=>by simp [he] at hf2
    have hf3': ¬fn.name= "runtime.NumGoroutine" :=by simpa using hf3
    simp [execOp,hop,resolve,hr.a8P hx,Deferred.ofValue,invoke,callFunc,hf1,hf2',hf3']
   unfold Oper.wp;rw [hexec]
   show Calls P f' (args.map a.eval) w _
   refine (hcs w R (args.map a.eval) (hr.sN.up hr.base) hr.oP (by simpa using hl) (fun i d hi=>by have:=hv i d hi;simpa [d8F,List.getD] using this)).mono fun e w' ⟨v,R',he,htv,hs,hr',ho⟩=>?_
   subst he;have hsb:Step base R w R' w':=⟨hs.below.mono hr.base,hs.mono,fun b o q1 q2=>hr.base b (hs.new b o q1 q2),hs.cells⟩;have hrel:=hr.step hsb hs.below.below.block hs.new hr';refine h v R' w' (hrel.put (htv μ) ?_) hsb;cases own with
   |none=>trivial
   |some e=>
    have jW:=ho e rfl;refine ⟨?_,fun k o' hk hsp=>?_,?_⟩
    ·rcases jW with q|⟨g,n,cap,cur,q1,q2,q3⟩
     ·exact .inl q
     ·exact .inr ⟨g,n,cap,cur,q1,hr.base _ q2,q3⟩
    ·obtain ⟨_,_,h3⟩:=hr.gT k o' hk;have h1:w.heap.size≤μ k:=jW.yH hsp;have h2:=h3.lt;omega
    ·obtain ⟨vs,hvs⟩:=hr.own;refine ⟨vs,hvs.step hr hs.below.below.block (fun b o hb q=>by
      by_cases hR:R b o
      ·exact hR
      ·have:=hs.new b o q hR;omega),fun v' hv'=>⟨fun g hg hg'=>?_,fun g hg hg'=>?_⟩⟩
     ·have h1:w.heap.size≤g:=jW.yH hg;have h2:=hvs.lt hv' hg';omega
     ·have h1:w.heap.size≤g:=jW.yH hg';have h2:=hvs.lt hv' hg;omega
  ·cases hc
 ·cases hc
theorem CS.forget {f:FuncId}{ds:List D}{r:DV}{own:Option TypeId}(h:CS P G f ds r own):CS P G f ds r none:=fun w R args hg hR hl hv=>(h w R args hg hR hl hv).mono fun e w' ⟨v,R',h1,h2,h3,h4,_⟩=>⟨v,R',h1,h2,h3,h4,fun _ he=>by cases he⟩
theorem a8X {o:Oper}{f:FuncId}{d8B:List DV}{s':St}(hc:dD G o st=some (f,d8B))(hcs:Enters P f∧mC P G f d8B (jH o) st o.dst s')(hr:Rel P G base R μ st a w){K:Act→World→Prop}{Q:Exit→Act→World→Prop}(h:∀v R' μ' w',Rel P G base R' μ' s' (a.put o.dst v) w'→Step base R w R' w'→K (a.put o.dst v) w'):o.wp P a w K Q:=by
 obtain ⟨⟨fn,hf1,hf2,hf3⟩,hcs⟩:=hcs;have hf2': ¬fn.body=none:=fun he=>by simp [he] at hf2
 have hf3': ¬fn.name= "runtime.NumGoroutine" :=by simpa using hf3
 have main:∀args:Array Value,(execOp a.eval o).run P w= .ok (.enter f args) w→args.size=d8B.length→(∀(i:Nat) (d:DV),d8B[i]? =some d→TV R μ w (args.getD i undef) d)→
   (∀(i:Nat) (l:Loc),(jH o)[i]? =some (some l)→∀u,cE a w μ l=some u→u=args.getD i undef)→o.wp P a w K Q:=fun args hexec hl hv hloc=>by
  unfold Oper.wp;rw [hexec]
  show Calls P f args w _
  refine (hcs base R μ a w args hr hl hv hloc).mono fun e w' ⟨v,R',μ',he,hrel,hs⟩=>?_
  subst he;exact h v R' μ' w' hrel hs
 have each:∀(l:List Operand) (i:Nat) (d:DV),(l.map (st.eval G))[i]? =some d→TV R μ w ((l.map a.eval).getD i undef) d:=fun l i d hi=>by
  rw [d8N] at hi;obtain ⟨x,hx,rfl⟩:=d8C.1 hi;have:(l.map a.eval).getD i undef=a.eval x:=by simp [List.getD,hx]
  rw [this];exact hr.eval x
 have dV:∀(args:Array Operand) (vs:Array Value),jH o=args.toList.map a1F→∀(i:Nat) (l:Loc),(jH o)[i]? =some (some l)→∀u,cE a w μ l=some u→u=(args.map a.eval++vs).getD i undef:=fun args vs sO i l hi u hu=>by
  rw [sO,d8N] at hi;obtain ⟨x,hx,hxl⟩:=d8C.1 hi;cases x with
  |tmp t=>
   simp only [a1F,d8J] at hxl;subst hxl;simp only [cE] at hu;have hlt:i<args.size:=by have:=(d8E.1 hx).1;simpa using this
   have he:args[i]? =some (.tmp t):=by simpa using hx
   rw [d8F,Array.getElem?_append_left (by simpa using hlt),Array.getElem?_map,he];simp [Act.eval,hu]
  |_=>cases hxl
 unfold dD at hc;split at hc
 ·rename_i x args ts hop;have sO:jH o=args.toList.map a1F:=by simp [jH,hop]
  split at hc
  ·rename_i f' hx;simp at hc;obtain ⟨rfl,rfl⟩:=hc;refine main (args.map a.eval) ?_ (by simp) (fun i d hi=>?_) (by simpa using dV args #[] sO)
   ·simp [execOp,hop,resolve,hr.a8P hx,Deferred.ofValue,invoke,callFunc,hf1,hf2',hf3']
   ·have:=each args.toList i d hi;simpa [d8F,List.getD] using this
  ·rename_i f' cs hx;simp at hc;obtain ⟨rfl,rfl⟩:=hc;obtain ⟨vs,he,hvs,hvc⟩:=(hr.kN hx).a4W;refine main (args.map a.eval++vs) ?_ (by simp [hvs]) (fun i d hi=>?_) (dV args vs sO)
   ·simp [execOp,hop,resolve,he,Deferred.ofValue,invoke,callFunc,hf1,hf2',hf3']
   ·by_cases hlt:i<args.size
    ·rw [d8O (by simpa using hlt)] at hi;have:=each args.toList i d hi;rw [d8F,Array.getElem?_append_left (by simpa using hlt)];simpa [d8F,List.getD] using this
    ·rw [d8L (by simp;omega)] at hi;simp only [List.length_map,Array.length_toList] at hi;have:=hvc _ d hi;rw [d8F,Array.getElem?_append_right (by simp;omega)];simpa [d8F] using this
  ·cases hc
 ·cases hc
theorem b8K {P:Program}{G:GT}{st:St}{q:Bool}{all:Array Oper}{o:Oper}{out:Out}(_:jO P G o st=some out):a5a q all o out.v out.act= .no∨a5a q all o out.v out.act=out.act:=by
 unfold a5a a3r;split
 ·split
  ·exact .inr rfl
  ·exact .inl rfl
 ·exact .inr rfl
theorem b5R:∀ {l:List DV} {ds:List D},tO l=some ds→l=ds.map .d
 |[],ds,h=>by simp [tO] at h;subst h;rfl
 | .d x::l,ds,h=>by
  simp only [tO] at h;split at h
  ·rename_i ds' hd;simp at h;subst h;rw [b5R hd];rfl
  ·cases h
 | .undef::_,_,h=>by simp [tO] at h
 | .ptr _ _::_,_,h=>by simp [tO] at h
 | .ep _::_,_,h=>by simp [tO] at h
 | .mp _::_,_,h=>by simp [tO] at h
 | .it _::_,_,h=>by simp [tO] at h
 | .cT _::_,_,h=>by simp [tO] at h
 | .fn _::_,_,h=>by simp [tO] at h
 | .oN::_,_,h=>by simp [tO] at h
 | .uU _::_,_,h=>by simp [tO] at h
 | .zT _ _::_,_,h=>by simp [tO] at h
 | .ag _::_,_,h=>by simp [tO] at h
theorem b8L {o:Oper}{f:FuncId}{ds:List D}(h:gP G o st=some (f,ds)):dD G o st=some (f,ds.map .d):=by
 unfold gP at h;unfold dD;split at h
 ·rename_i x args ts hop;split at h
  ·rename_i f' ds' hx hds;simp at h;obtain ⟨rfl,rfl⟩:=h;simp only [hop,hx];rw [b5R hds]
  ·cases h
 ·cases h
theorem pQ {q:Bool}{all:Array Oper}{o:Oper}{K:St→Prop}{Q:Exit→Act→World→Prop}{KK:Act→World→Prop}(h:kO P G q all o K st)(hr:Rel P G base R μ st a w)(hk:∀s v w' R' μ',K s→Rel P G base R' μ' s (a.put o.dst v) w'→Step base R w R' w'→KK (a.put o.dst v) w'):
  if Region.wanted o (yielded all a.tmps) then o.wp P a w KK Q∨(o.asks P a w∧LetsOut Q) else KK (a.put o.dst Go.undef) w:=by
 unfold kO at h;split at h
 ·rename_i hw;rw [zY hr hw,if_pos rfl];refine .inl ?_
  split at h
  ·rename_i f ds hc;rcases h with ⟨r,own,hcs,_,h⟩|⟨_,s',hcs,h⟩
   ·generalize (q&& !rD all o)=qn at h;cases qn with
    |true=>exact c0I hc ⟨hcs.1,hcs.2.forget⟩ hr fun v R1 w1 hrel hs=>hk _ v w1 R1 μ h hrel hs
    |false=>exact c0I hc hcs hr fun v R1 w1 hrel hs=>hk _ v w1 R1 μ h hrel hs
   ·exact a8X (b8L hc) hcs hr fun v R1 μ1 w1 hrel hs=>hk _ v w1 R1 μ1 h hrel hs
  ·split at h
   ·rename_i f d8B hch;unfold yJ at h;split at h
    ·obtain ⟨d,ks,⟨h1,h2,h3,_⟩,h⟩:=h;exact a8X hch ⟨h1,h2 st (fun _ _=>rfl) h3 _ _⟩ hr fun v R1 μ1 w1 hrel hs=>hk _ v w1 R1 μ1 h hrel hs
    ·obtain ⟨s',hcs,h⟩:=h;exact a8X hch hcs hr fun v R1 μ1 w1 hrel hs=>hk _ v w1 R1 μ1 h hrel hs
   split at h
   ·rename_i out hv;obtain ⟨v,w1,R1,μ1,hrun,hrel,htv,hact,hs⟩:=d2W hv base R μ a w hr;have hact':a1G P base R1 μ1 out.st a w1 v (a5a q all o out.v out.act):=by
     rcases b8K (q:=q) (all:=all) hv with he|he
     ·rw [he];trivial
     ·rw [he];exact hact
    have hgo:=hk _ v w1 R1 μ1 h (hrel.put (dst:=o.dst) htv hact') hs;unfold Oper.wp;rcases hrun with hrun|⟨hrun,rfl⟩
    ·rw [hrun];exact hgo
    ·rw [hrun];exact hgo
   ·cases h
 ·rename_i hw;rw [zY hr hw];simp only [Bool.false_eq_true,if_false];exact hk _ _ w R μ h (hr.put (dst:=o.dst) (v:=Go.undef) (.cT #[] [] rfl (by simp)) trivial) (.refl _ _ _)
 ·cases h
theorem b3Q {q:Bool}(all:Array Oper)(Q:Exit→Act→World→Prop):∀(l:List Oper) (st:St) (K:St→Prop),rF P G q all l st K→∀(base:cZ) (R:Nat→Nat→Prop) (μ:Nat→Nat) (a:Act) (w:World),Rel P G base R μ st a w→
  (∀s a' w' R' μ',K s→Rel P G base R' μ' s a' w'→Step base R w R' w'→Q .normal a' w')→wpList P all Q l a w
 |[],st,K,h,base,R,μ,a,w,hr,hk=>hk st a w R μ h hr (.refl _ _ _)
 |o::rest,st,K,h,base,R,μ,a,w,hr,hk=>by unfold wpList;exact pQ h hr fun s v w' R' μ' h' hr' hs'=>b3Q all Q rest s K h' base R' μ' _ w' hr' fun s a' w2 R2 μ2 q1 q2 q3=>hk s a' w2 R2 μ2 q1 q2 (hs'.trans q3)
theorem eZ {q:Bool}{all:Array Oper}{o:Oper}{K K':St→Prop}(hk:∀s,K s→K' s)(h:kO P G q all o K st):kO P G q all o K' st:=by
 unfold kO at *;split
 ·rename_i hw;rw [hw] at h;simp only at h ⊢;split
  ·rename_i f ds hc;rw [hc] at h;rcases h with ⟨r,own,h1,h3,h2⟩|⟨h0,s',h1,h2⟩
   ·exact .inl ⟨r,own,h1,h3,hk _ h2⟩
   ·exact .inr ⟨h0,s',h1,hk _ h2⟩
  ·rename_i hc;rw [hc] at h;simp only at h;split
   ·rename_i f d8B hch;rw [hch] at h;simp only [yJ] at h ⊢;split
    ·rename_i hro;rw [if_pos hro] at h;obtain ⟨d,ks,h1,h2⟩:=h;exact ⟨d,ks,h1,hk _ h2⟩
    ·rename_i hro;rw [if_neg hro] at h;obtain ⟨s',h1,h2⟩:=h;exact ⟨s',h1,hk _ h2⟩
   rename_i hch;rw [hch] at h;simp only at h;split
   ·rename_i out ho;rw [ho] at h;exact hk _ h
   ·rename_i ho;rw [ho] at h;exact h
 ·rename_i hw;rw [hw] at h;exact hk _ h
 ·rename_i hw;rw [hw] at h;exact h
def QY (P:Program)(G:GT)(all:Array Oper)(o:Oper)(d:DV)(act:OA)(st:St):Prop:=
 (eA o all st.tmps=some true∧((∃f ds own,gP G o st=some (f,ds)∧Enters P f∧CS P G f ds d own∧pO d=true∧act=a1M own)∨(gP G o st=none∧dD G o st=none∧jO P G o st=some ⟨d,act,st⟩)∨
  (gP G o st=none∧∃f d8B ks,dD G o st=some (f,d8B)∧Enters P f∧RO P G f d8B ks st.H d∧jQ ks st.own=true∧(ks.all fun k=>(getKey k st.H).isSome)=true∧pO d=true∧act= .no)))∨(eA o all st.tmps=some false∧d= .cT []∧act= .no)
theorem b2u {o:Oper}(hq:dA o.op=true){st':St}(he:∀x∈o.op.operands,st'.eval G x=st.eval G x)(hH:∀x∈o.op.operands,∀k,mentions k (st.eval G x)=true→getKey k st'.H=getKey k st.H):jO P G o st'=(jO P G o st).map fun out=>⟨out.v,out.act,st'⟩:=by
 obtain ⟨dst,op,ty,pos,after,guard⟩:=o;have parts:∀ps:List (Nat×Operand),(∀x∈ps.map (·.2),st'.eval G x=st.eval G x)→zH G st' ps=zH G st ps:=by
  intro ps
  induction ps with
  |nil=>intro _;rfl
  |cons p ps ih=>intro hp;obtain ⟨i,x⟩:=p;unfold zH;rw [hp x (by simp),ih fun y hy=>hp y (by simp at hy ⊢;exact .inr hy)]
 have partsv:∀ps:List (Nat×Operand),(∀x∈ps.map (·.2),st'.eval G x=st.eval G x)→vK G st' ps=vK G st ps:=by
  intro ps
  induction ps with
  |nil=>intro _;rfl
  |cons p ps ih=>intro hp;obtain ⟨i,x⟩:=p;unfold vK;rw [hp x (by simp),ih fun y hy=>hp y (by simp at hy ⊢;exact .inr hy)]
 have sF:∀(x:Option Operand) (d n:Nat),(∀y,x=some y→st'.eval G y=st.eval G y)→gB G st' x d n=gB G st x d n:=fun x d n hx=>by
  cases x with
  |none=>rfl
  |some y=>simp only [gB,hx y rfl]
 cases op<;>simp only [dA] at hq<;>try cases hq
 all_goals simp only [Op.operands] at he hH
 case move x=>simp [jO,zV,he]
 case assign x=>simp [jO,zV,he]
 case pick c a b=>simp only [jO,a8L,he c (by simp),he a (by simp),he b (by simp)];split<;>rfl
 case build t ps=>
  simp only [jO,a3Z,parts ps.toList fun x hx=>he x (by simpa using hx)];split
  ·split
   ·simp [Option.map_map,Function.comp_def]
   ·simp only [a2Q,partsv ps.toList fun x hx=>he x (by simpa using hx)];split
    ·simp [Option.map_map,Function.comp_def]
    ·rfl
  ·rfl
 case buildSlice t n ps=>
  simp only [jO,pW,parts ps.toList fun x hx=>he x (by simpa using hx)];split
  ·split<;>rfl
  ·rfl
 case load t x=>
  simp only [jO,a7d,he x (by simp)];split
  ·rename_i k off hx;rw [hH x (by simp) k (by rw [hx];simp [mentions])];split
   ·simp [Option.map_map,Function.comp_def]
   ·rfl
  ·simp [Option.map_map,Function.comp_def]
  ·rfl
 case nilCheck x=>simp only [jO,sE,he x (by simp)];split<;>rfl
 case binOp op t x y u=>
  simp only [jO,a8M,wY,b8z,he x (by simp),he y (by simp)];split
  ·split<;>rfl
  ·split
   ·simp [Option.map_map,Function.comp_def]
   ·rfl
 case unOp op t x=>
  simp only [jO,vUn,he x (by simp)];split
  ·simp [Option.map_map,Function.comp_def]
  ·rfl
 case convert src dst x=>
  simp only [jO,a8N,he x (by simp)];split
  ·simp [Option.map_map,Function.comp_def]
  ·rfl
 case lookup t m k ok=>
  simp only [jO,a2R,he m (by simp),he k (by simp)];split
  ·rename_i hm _;rw [hH m (by simp) _ (by rw [hm];simp [mentions])];split
   ·simp [Option.map_map,Function.comp_def]
   ·rfl
  ·rfl
 case extract x i=>
  simp only [jO,xA,he x (by simp)];split
  ·simp [Option.map_map,Function.comp_def]
  ·rfl
 case field t x i=>
  simp only [jO,a4a,he x (by simp)];split
  ·simp [Option.map_map,Function.comp_def]
  ·rfl
 case index t x i=>
  simp only [jO,a4b,he x (by simp),he i (by simp)];split
  ·simp [Option.map_bind,Option.map_map,Function.comp_def]
  ·simp [Option.map_bind,Option.map_map,Function.comp_def]
  ·rfl
 case indexAddr t x i=>
  simp only [jO,pX,he x (by simp),he i (by simp)];split
  ·rw [Option.map_bind];congr 1;funext j;simp only [Function.comp];rw [Option.map_bind];congr 1;funext cs;simp only [Function.comp];split<;>rfl
  ·split
   ·rfl
   ·simp [Option.map_map,Function.comp_def]
  ·split
   ·rfl
   ·simp [Option.map_map,Function.comp_def]
  ·rfl
 case fieldAddr t x i=>
  simp only [jO,pY,he x (by simp)];split
  ·split
   ·rfl
   ·split<;>rfl
  ·rfl
 case slice t x lo hi mx=>
  have sO:∀y,lo=some y→st'.eval G y=st.eval G y:=fun y hy=>he y (by simp [hy])
  have hhi:∀y,hi=some y→st'.eval G y=st.eval G y:=fun y hy=>he y (by simp [hy])
  have hmx:∀y,mx=some y→st'.eval G y=st.eval G y:=fun y hy=>he y (by simp [hy])
  simp only [jO,a4c,he x (by simp),sF lo _ _ sO,sF hi _ _ hhi];split
  ·simp [Option.map_bind,Option.map_map,Function.comp_def]
  ·split
   ·simp [Option.map_bind,Option.map_map,Function.comp_def]
   ·rfl
  ·split
   ·simp [Option.map_bind,Option.map_map,Function.comp_def]
   ·rfl
  ·rw [sF (some _) _ _ fun y hy=>hmx y hy];split<;>rfl
  ·rw [sF (some _) _ _ fun y hy=>hmx y hy];split<;>rfl
  ·rfl
 case call c=>
  obtain ⟨callee,args,ts⟩:=c;cases callee with
  |value f=>simp [jO]
  |invoke r m=>simp at hq
  |builtin b=>
   have mem:∀ {x:Operand} {l:List Operand},args.toList=l→x∈l→st'.eval G x=st.eval G x:=fun hl hx=>he _ (by simp only [Op.operands,Call.operands];rw [← Array.mem_toList_iff];simp [hl,hx])
   cases b<;>simp only [] at hq<;>try cases hq
   ·simp only [jO,pZ];split
    ·rename_i x t _ heq _;have hx:st'.eval G x=st.eval G x:=mem heq (by simp);have hxm:x∈args:=by rw [← Array.mem_toList_iff];simp [heq]
     simp only [c1K,hx];split
     ·rfl
     ·rfl
     ·rfl
     ·rename_i hx2;rw [hH x (by simpa [Call.operands] using hxm) _ (by rw [hx2];simp [mentions])];split<;>rfl
     ·rfl
    ·rename_i h1 _ _;cases h1
    ·rename_i h1 _ _;cases h1
    ·rename_i h1 _;cases h1
    ·rename_i h1 _;cases h1
    ·rfl
   ·simp only [jO,pZ];split
    ·rename_i h1 _ _;cases h1
    ·rename_i h1 _ _;cases h1
    ·rename_i h1 _ _;cases h1
    ·rename_i x y _ heq;have hx:st'.eval G x=st.eval G x:=mem heq (by simp);have hy:st'.eval G y=st.eval G y:=mem heq (by simp);simp only [c1L,hx,hy];split<;>rfl
    ·rename_i h1 _;cases h1
    ·rfl
   ·simp only [jO,pZ];split
    ·rename_i h1 _ _;cases h1
    ·rename_i h1 _ _;cases h1
    ·rename_i h1 _ _;cases h1
    ·rename_i h1 _;cases h1
    ·rename_i x y _ heq;have hx:st'.eval G x=st.eval G x:=mem heq (by simp);have hy:st'.eval G y=st.eval G y:=mem heq (by simp);simp only [c1M,hx,hy];split<;>rfl
    ·rfl
theorem b5S {o:Oper}(hq:dA o.op=true)(h:jO P G o st=some out):out.st=st:=by have:=b2u (P:=P) (G:=G) (st:=st) (st':=st) hq (fun _ _=>rfl) (fun _ _ _ _=>rfl);rw [h] at this;simp at this;have h2:=congrArg Out.st this;simpa using h2
theorem a1N (st:St)(dst:Option Tmp)(d:DV)(act:OA):(finish st dst d act).H=st.H:=by cases dst<;>rfl
theorem b5T {dst:Option Tmp}{d:DV}{act:OA}{x:Operand}(h:∀t,dst=some t→x≠ .tmp t):(finish st dst d act).eval G x=st.eval G x:=by
 cases dst with
 |none=>rfl
 |some t=>
  cases x with
  |tmp j=>
   have hne:t≠j:=fun e=>h t rfl (e▸rfl)
   simp [finish,St.eval,List.getElem?_set_ne hne]
  |_=>rfl
theorem a4j {all:Array Oper}{o:Oper}{dst:Option Tmp}{d:DV}{act:OA}(h:∀t,dst=some t→t ∉ o.looksAt all):∀x∈o.op.operands,(finish st dst d act).eval G x=st.eval G x:=fun x hx=>b5T fun t ht hxt=>h t ht (by subst hxt;exact List.mem_append_left _ (List.mem_filterMap.2 ⟨.tmp t,by simpa using hx,rfl⟩))
theorem bB {all:Array Oper}{o:Oper}{dst:Option Tmp}{d:DV}{act:OA}(h:∀t,dst=some t→t ∉ o.looksAt all):eA o all (finish st dst d act).tmps=eA o all st.tmps:=by
 cases dst with
 |none=>rfl
 |some t=>
  unfold eA;cases hg:o.guard with
  |none=>rfl
  |some gw=>
   obtain ⟨g,want⟩:=gw;have hy:rK all (finish st (some t) d act).tmps g=rK all st.tmps g:=by
    unfold rK;cases ht:(all[g]?).bind (·.dst) with
    |none=>rfl
    |some j=>
     have hne:t≠j:=fun e=>h t rfl (by subst e;simp [Oper.looksAt,hg,ht])
     simp [finish,List.getElem?_set_ne hne]
   simp only [hy]
theorem b3R {o:Oper}{st':St}(h:∀x∈o.op.operands,st'.eval G x=st.eval G x):gP G o st'=gP G o st:=by
 unfold gP;split
 ·rename_i x args ts hop;rw [hop] at h;have hx:=h x (by simp [Op.operands,Call.operands]);have ha:args.toList.map (st'.eval G)=args.toList.map (st.eval G):=List.map_congr_left fun y hy=>h y (by simp [Op.operands,Call.operands];exact .inr (by simpa using hy))
  rw [hx,ha]
 ·rfl
theorem b1x {o:Oper}{st':St}(h:∀x∈o.op.operands,st'.eval G x=st.eval G x):dD G o st'=dD G o st:=by
 unfold dD;split
 ·rename_i x args ts hop;rw [hop] at h;have hx:=h x (by simp [Op.operands,Call.operands]);have ha:args.toList.map (st'.eval G)=args.toList.map (st.eval G):=List.map_congr_left fun y hy=>h y (by simp [Op.operands,Call.operands];exact .inr (by simpa using hy))
  rw [hx,ha]
 ·rfl
theorem a4k (ks:List Nat)(t:Tmp)(own:List (TypeId×List Loc)):jQ ks (cL (.t t) own)=jQ ks own:=by
 unfold jQ cL;rw [List.all_map];congr 1;funext c;simp only [Function.comp]
 induction c.2 with
 |nil=>rfl
 |cons l r ih=>
  by_cases hl:l= .t t
  ·subst hl;rw [List.filter_cons_of_neg (by simp),ih]
   rfl
  ·rw [List.filter_cons_of_pos (by simp [hl]),List.all_cons,List.all_cons,ih]
theorem b5U (ks:List Nat)(s:Loc)(t:Tmp)(own:List (TypeId×List Loc)):jQ ks (addAlias s (.t t) own)=jQ ks own:=by
 unfold jQ addAlias;rw [List.all_map];congr 1;funext c;simp only [Function.comp];split
 ·rw [List.all_cons];rfl
 ·rfl
theorem a5b (ks:List Nat)(dst:Option Tmp)(d:DV)(act:OA):jQ ks (VM.finish st dst d act).own=jQ ks st.own:=by
 cases dst with
 |none=>rfl
 |some t=>
  simp only [VM.finish];cases act with
  |no=>exact a4k ks t _
  |al l=>
   simp only [eH];split
   ·rfl
   ·rw [b5U,a4k]
  |fresh e=>
   simp only [eH];have:=a4k ks t st.own;unfold jQ at this ⊢;rw [List.all_cons,this]
   rfl
theorem c4f {o:Oper}{x:FuncId×List DV}(h:dD G o st=some x):a0A o=true:=by
 unfold dD at h;unfold a0A;split at h
 ·rename_i hop;rw [hop]
 ·cases h
theorem QY.to {all:Array Oper}{o:Oper}{d:DV}{ac:OA}{st':St}(h:QY P G all o d ac st)(hq:dA o.op=true)(hw:eA o all st'.tmps=eA o all st.tmps)(he:∀x∈o.op.operands,st'.eval G x=st.eval G x)(hH:∀x∈o.op.operands,∀k,mentions k (st.eval G x)=true→getKey k st'.H=getKey k st.H)(hk:a0A o=true→∀k o,getKey k st.H=some o→getKey k st'.H=some o)(hn:a0A o=true→∀ks,(ks.all fun k=>(getKey k st.H).isSome)=true→jQ ks st.own=true→jQ ks st'.own=true):QY P G all o d ac st':=by
 unfold QY at h ⊢;rw [hw,b3R he,b1x he,b2u hq he hH];rcases h with ⟨h0,h|⟨h1,h2,h3⟩|⟨h1,f,d8B,ks,h2,h3,h4,h5,h6,h7,h8⟩⟩|h
 ·exact .inl ⟨h0,.inl h⟩
 ·exact .inl ⟨h0,.inr (.inl ⟨h1,h2,by rw [h3];rfl⟩)⟩
 ·have hv:=c4f h2;have hks:∀k∈ks,getKey k st'.H=getKey k st.H:=fun k hkk=>by obtain ⟨ob,hob⟩:=Option.isSome_iff_exists.1 (d8G.1 h6 k hkk);rw [hob];exact hk hv k ob hob
  refine .inl ⟨h0,.inr (.inr ⟨h1,f,d8B,ks,h2,h3,fun s hs hno=>h4 s (fun k hkk=>(hs k hkk).trans (hks k hkk)) hno,hn hv ks h6 h5,d8G.2 fun k hkk=>?_,h7,h8⟩)⟩;rw [hks k hkk];exact d8G.1 h6 k hkk
 ·exact .inr h
theorem QY.finish {all:Array Oper}{o:Oper}{d x:DV}{ac:OA}{dst:Option Tmp}{act:OA}(hq:dA o.op=true)(h:∀t,dst=some t→t ∉ o.looksAt all):QY P G all o d ac (VM.finish st dst x act)↔QY P G all o d ac st:=by
 have he:=a4j (G:=G) (st:=st) (d:=x) (act:=act) h;refine ⟨fun hy=>QY.to hy hq (bB h).symm (fun y hy=>(he y hy).symm) (fun _ _ _ _=>by rw [a1N]) (fun _ k ob hk=>by rw [a1N] at hk;exact hk) (fun _ ks _ hn=>by rw [a5b] at hn;exact hn),
  fun hy=>QY.to hy hq (bB h) he (fun _ _ _ _=>by rw [a1N]) (fun _ k ob hk=>by rw [a1N];exact hk) (fun _ ks _ hn=>by rw [a5b];exact hn)⟩
theorem b8M {all:Array Oper}{o:Oper}{K:St→Prop}(hq:dA o.op=true)(hal:kB all o=false):kO P G true all o K st↔∃d act,QY P G all o d act st∧K (finish st o.dst d (a3r all o act)):=by
 have hact:∀d act,a5a true all o d act=a3r all o act:=fun d act=>by simp [a5a,hq]
 have hno:a3r all o .no= .no:=by unfold a3r;split<;>rfl
 have hqn:∀a,a3r all o a=if true&& !rD all o then .no else a:=fun a=>by unfold a3r;cases rD all o<;>rfl
 unfold kO QY;constructor
 ·intro h;split at h
  ·rename_i hw;rw [hw];split at h
   ·rename_i f ds hc;rcases h with ⟨r,own,⟨h1,h2⟩,h4,h3⟩|⟨h0,_⟩
    ·exact ⟨r,a1M own,.inl ⟨rfl,.inl ⟨f,ds,own,hc,h1,h2,h4 rfl,rfl⟩⟩,by rw [hqn];exact h3⟩
    ·simp [pP,hal] at h0
   ·rename_i hc;split at h
    ·rename_i f d8B hch;simp only [yJ,pP,hal,Bool.not_false,Bool.true_or,Bool.and_self,if_true] at h;obtain ⟨d,ks,⟨h1,h2,h3,h5,h6⟩,h4⟩:=h;exact ⟨d,.no,.inl ⟨rfl,.inr (.inr ⟨hc,f,d8B,ks,hch,h1,h2,h3,h5,h6,rfl⟩)⟩,by rw [hno];exact h4⟩
    ·rename_i hch;split at h
     ·rename_i out ho;rw [hact] at h;have hs:=b5S hq ho;obtain ⟨v,act,s2⟩:=out;simp only at hs;subst hs;exact ⟨v,act,.inl ⟨rfl,.inr (.inl ⟨hc,hch,ho⟩)⟩,h⟩
     ·cases h
  ·rename_i hw;exact ⟨.cT [],.no,.inr ⟨hw,rfl,rfl⟩,by rw [hno];exact h⟩
  ·cases h
 ·rintro ⟨d,act,(⟨hw,⟨f,ds,own,hc,h1,h2,h4,rfl⟩|⟨hc,hch,ho⟩|⟨hc,f,d8B,ks,hch,h1,h2,h3,h5,h6,rfl⟩⟩|⟨hw,rfl,rfl⟩),hk⟩
  ·rw [hqn] at hk;rw [hw];simp only;rw [hc];exact .inl ⟨d,own,⟨h1,h2⟩,fun _=>h4,hk⟩
  ·rw [hw];simp only;rw [hc];simp only;rw [hch];simp only;rw [ho];simp only;rw [hact];exact hk
  ·rw [hno] at hk;rw [hw];simp only;rw [hc];simp only;rw [hch];simp only [yJ,pP,hal,Bool.not_false,Bool.true_or,Bool.and_self,if_true];exact ⟨d,ks,⟨h1,h2,h3,h5,h6⟩,hk⟩
  ·rw [hno] at hk;rw [hw];exact hk
def b3S (all:Array Oper)(o:Oper)(a:OA):Prop:=a= .no∨(rD all o=true∧∃e,a= .fresh e)∨∃l i,o.dst=some i∧rD all o=true∧l≠ .t i∧(∀u,u ∉ o.looksAt all→l≠ .t u)∧a= .al l
theorem yK (v:DV)(a:OA):pV v a= .no∨pV v a=a:=by
 unfold pV;split
 ·exact .inr rfl
 ·exact .inl rfl
theorem QY.act {all:Array Oper}{o:Oper}{d:DV}{act:OA}(h:QY P G all o d act st):b3S all o (a3r all o act):=by
 unfold a3r;split
 ·rename_i hn;rcases h with ⟨hw,⟨f,ds,own,hc,h1,h2,_,rfl⟩|⟨hc,hch,ho⟩|⟨hc,f,d8B,ks,hch,h1,h2,h3,_,_,rfl⟩⟩|⟨hw,rfl,rfl⟩
  ·cases own with
   |none=>exact .inl rfl
   |some e=>exact .inr (.inl ⟨hn,e,rfl⟩)
  ·obtain ⟨dst,op,ty,pos,after,guard⟩:=o;have hn':=hn;unfold rD at hn;split at hn
   ·rename_i j i hg hop hd;simp only at hg hop hd;subst hg hop hd;simp only [d8D,bne_iff_ne] at hn;have:act=pV (st.eval G (.tmp j)) (.al (.t j)):=by simp only [jO,zV,d8J,Out.mk.injEq] at ho;exact ho.2.1.symm
    rcases yK (st.eval G (.tmp j)) (.al (.t j)) with h1|h1
    ·exact .inl (this.trans h1)
    ·exact .inr (.inr ⟨.t j,i,rfl,hn',fun e=>hn.1 (by cases e;rfl),fun u hu e=>hu (by cases e;simp [Oper.looksAt,Op.operands]),this.trans h1⟩)
   ·rename_i j i hg hop hd;simp only at hg hop hd;subst hg hop hd;simp only [d8D,bne_iff_ne] at hn;have:act=pV (st.eval G (.tmp j)) (.al (.t j)):=by simp only [jO,zV,d8J,Out.mk.injEq] at ho;exact ho.2.1.symm
    rcases yK (st.eval G (.tmp j)) (.al (.t j)) with h1|h1
    ·exact .inl (this.trans h1)
    ·exact .inr (.inr ⟨.t j,i,rfl,hn',fun e=>hn.1 (by cases e;rfl),fun u hu e=>hu (by cases e;simp [Oper.looksAt,Op.operands]),this.trans h1⟩)
   ·rename_i ty' j i hg hop hd;simp only at hg hop hd;subst hg hop hd;simp only [jO,a7d] at ho;split at ho
    ·rename_i k off _;split at ho
     ·rename_i cs hk;obtain ⟨y,_,he⟩:=d8C.1 ho;simp only [Out.mk.injEq] at he;have:act=pV y (.al (.c k off)):=he.2.1.symm;rcases yK y (.al (.c k off)) with h1|h1
      ·exact .inl (this.trans h1)
      ·exact .inr (.inr ⟨.c k off,i,rfl,hn',(by simp),(fun u _=>by simp),this.trans h1⟩)
     ·cases ho
    ·obtain ⟨y,_,he⟩:=d8C.1 ho;simp only [Out.mk.injEq] at he;exact .inl he.2.1.symm
    ·cases ho
   ·rename_i cl x i hg hop hd;simp only at hg hop hd;subst hg hop hd;simp [jO] at ho
   ·rename_i t n ps i hg hop hd;simp only at hg hop hd;subst hg hop hd;simp only [jO,pW] at ho;split at ho
    ·split at ho
     ·simp only [d8J,Out.mk.injEq] at ho;exact .inr (.inl ⟨hn',_,ho.2.1.symm⟩)
     ·cases ho
    ·cases ho
   ·cases hn
  ·exact .inl rfl
  ·exact .inl rfl
 ·exact .inl rfl
theorem oT (x y:Loc)(own:List (TypeId×List Loc)):cL x (cL y own)=cL y (cL x own):=by
 simp only [cL,List.map_map];refine List.map_congr_left fun c _=>?_
 simp only [Function.comp,List.filter_filter];congr 1;refine List.filter_congr fun l _=>?_
 rw [Bool.and_comm]
theorem a3E {x l:Loc}(h:l≠x)(c:List Loc):(c.filter fun y=>decide (y≠x)).contains l=c.contains l:=by rw [Bool.eq_iff_iff];simp only [List.contains_iff_mem,List.mem_filter,decide_eq_true_eq];exact ⟨fun h=>h.1,fun h'=>⟨h',h⟩⟩
theorem a8Y {s t x:Loc}(h1:s≠x)(h2:t≠x)(own:List (TypeId×List Loc)):addAlias s t (cL x own)=cL x (addAlias s t own):=by
 simp only [addAlias,cL,List.map_map];refine List.map_congr_left fun c _=>?_
 simp only [Function.comp,a3E h1];split
 ·simp [h2]
 ·rfl
theorem b5V {l:Loc}{t u:Tmp}(h1:t≠u)(h2:l≠ .t u)(h3:l≠ .t t)(own:List (TypeId×List Loc)):eH (.t u) .no (eH (.t t) (.al l) own)=eH (.t t) (.al l) (eH (.t u) .no own):=by
 have ht:(.t t:Loc)≠ .t u:=fun e=>h1 (by cases e;rfl)
 simp only [eH];rw [if_neg h3,if_neg h3, ← a8Y h2 ht,oT]
theorem a4l {e:TypeId}{t u:Tmp}(h1:t≠u)(own:List (TypeId×List Loc)):eH (.t u) .no (eH (.t t) (.fresh e) own)=eH (.t t) (.fresh e) (eH (.t u) .no own):=by
 have ht:(.t t:Loc)≠ .t u:=fun e=>h1 (by cases e;rfl)
 simp only [eH];rw [oT (.t t)];simp [cL,ht]
theorem vB {all:Array Oper}{x y:Oper}{d e:DV}{ax ay:OA}(h:∀t,x.dst=some t→y.dst≠some t)(hx:∀t,x.dst=some t→t ∉ y.looksAt all)(hy:∀t,y.dst=some t→t ∉ x.looksAt all)(hn:(rD all x&&rD all y)=false)(sx:b3S all x ax)(sy:b3S all y ay):
  finish (finish st x.dst d ax) y.dst e ay=finish (finish st y.dst e ay) x.dst d ax:=by
 cases hxd:x.dst with
 |none=>cases y.dst<;>rfl
 |some t=>
  cases hyd:y.dst with
  |none=>rfl
  |some u=>
   have hne:t≠u:=fun he=>h t hxd (he▸hyd)
   simp only [finish];rw [List.set_comm _ _ hne];congr 1;rcases sx with rfl|⟨q2,e,rfl⟩|⟨l,i,q1,q2,q3,q4,rfl⟩
   ·rcases sy with rfl|⟨q2,e,rfl⟩|⟨l,i,q1,q2,q3,q4,rfl⟩
    ·exact oT _ _ _
    ·exact (a4l (Ne.symm hne) _).symm
    ·rw [hyd] at q1;cases q1;exact (b5V (Ne.symm hne) (q4 t (hx t hxd)) q3 _).symm
   ·rcases sy with rfl|⟨p2,e',rfl⟩|⟨l',i',p1,p2,p3,p4,rfl⟩
    ·exact a4l hne _
    ·rw [q2,p2] at hn;cases hn
    ·rw [q2,p2] at hn;cases hn
   ·rw [hxd] at q1;cases q1;rcases sy with rfl|⟨p2,e',rfl⟩|⟨l',i',p1,p2,p3,p4,rfl⟩
    ·exact b5V hne (q4 u (hy u hyd)) q3 _
    ·rw [q2,p2] at hn;cases hn
    ·rw [q2,p2] at hn;cases hn
def a8Z (P:Program)(G:GT)(ops:Array Oper)(Q:St→Prop):Nat→Array Bool→St→Prop
 |0,listed,st=>Region.ready .any ops listed=[]∧Q st
 |fuel+1,listed,st=>(Region.ready .any ops listed=[]→Q st)∧∀i∈Region.ready .any ops listed,match ops[i]? with
  |none=>a8Z P G ops Q fuel (listed.setIfInBounds i true) st
  |some o=>kO P G true ops o (a8Z P G ops Q fuel (listed.setIfInBounds i true)) st
theorem a8w {ops:Array Oper}{Q:St→Prop}{QQ:Exit→Act→World→Prop}:∀(fuel:Nat) (listed:Array Bool) (st:St),a8Z P G ops Q fuel listed st→∀(base:cZ) (R:Nat→Nat→Prop) (μ:Nat→Nat) (a:Act) (w:World),Rel P G base R μ st a w→
  (∀s a' w' R' μ',Q s→Rel P G base R' μ' s a' w'→Step base R w R' w'→QQ .normal a' w')→wpAny P .any ops QQ fuel listed a w
 |0,_,st,h,base,R,μ,a,w,hr,hk=>⟨h.1,hk st a w R μ h.2 hr (.refl _ _ _)⟩
 |fuel+1,listed,st,h,base,R,μ,a,w,hr,hk=>by
  refine ⟨fun h0=>hk st a w R μ (h.1 h0) hr (.refl _ _ _),fun i hi=>?_⟩;have h1:=h.2 i hi;unfold wpOp;split
  ·rename_i ho;rw [ho] at h1;exact a8w fuel _ st h1 base R μ a w hr hk
  ·rename_i o ho;rw [ho] at h1;exact pQ h1 hr fun s v w' R' μ' h' hr' hs'=>a8w fuel _ s h' base R' μ' _ w' hr' fun s a' w2 R2 μ2 q1 q2 q3=>hk s a' w2 R2 μ2 q1 q2 (hs'.trans q3)
def eR (ops:Array Oper)(listed:Array Bool):Prop:=∀k,listed.getD k false=true→∀o,ops[k]? =some o→∀e∈o.after,Region.binds .any e=true→listed.getD e.on false=true
theorem c8t {listed:Array Bool}{i:Nat}(h0:listed.getD i true=false)(h1:listed.getD i false=true):False:=by
 rcases Nat.lt_or_ge i listed.size with h'|h'
 ·simp [h'] at h0 h1;rw [h0] at h1;cases h1
 ·simp [Array.getElem?_eq_none h'] at h1
theorem c4g {es:List Edge}{n i:Nat}{rows:List Nat}:∀(acc:Nat),(es.foldl (fun acc e=>if Region.binds .any e=true∧e.on<n then acc |||((1 <<<e.on) |||rows.getD (n-1-e.on) 0) else acc) acc).testBit i=true→
  acc.testBit i=true∨∃e∈es,Region.binds .any e=true∧e.on<n∧(e.on=i∨(rows.getD (n-1-e.on) 0).testBit i=true):=by
 induction es with
 |nil=>intro acc h;exact .inl h
 |cons e es ih=>
  intro acc h;simp only [List.foldl_cons] at h;rcases ih _ h with h|⟨e',h1,h2⟩
  ·split at h
   ·rename_i hb;rw [Nat.testBit_or,d8P,Nat.testBit_or,d8P] at h;rcases h with h|h|h
    ·exact .inl h
    ·rw [Nat.testBit_shiftLeft] at h;simp only [d8D,decide_eq_true_eq] at h;have:i-e.on=0:=by
      have h2:=h.2;cases hx:i-e.on with
      |zero=>rfl
      |succ m=>rw [hx,Nat.testBit_succ] at h2;simp at h2
     exact .inr ⟨e,.head _,hb.1,hb.2,.inl (by omega)⟩
    ·exact .inr ⟨e,.head _,hb.1,hb.2,.inr h⟩
   ·exact .inl h
  ·exact .inr ⟨e',.tail _ h1,h2⟩
theorem c1V (o:Oper)(r:List Oper)(n:Nat)(rows:List Nat):rowsOf (o::r) n rows=rowsOf r (n+1) ((o.after.toList.foldl (fun acc e=>if Region.binds .any e=true∧e.on<n then acc |||((1 <<<e.on) |||rows.getD (n-1-e.on) 0) else acc) 0)::rows):=by rw [rowsOf];generalize (o.after.toList.foldl (fun acc e=>if Region.binds .any e=true∧e.on<n then acc |||((1 <<<e.on) |||rows.getD (n-1-e.on) 0) else acc) 0)=m;cases m<;>rfl
theorem a9a {ops:Array Oper}{i:Nat}:∀(l:List Oper) (n:Nat) (rows:List Nat),rows.length=n→(∀j,l[j]? =ops[n+j]?)→
  (∀k,k<n→(rows.getD (n-1-k) 0).testBit i=true→∃o,ops[k]? =some o∧∃e∈o.after,Region.binds .any e=true∧(e.on=i∨(e.on<k∧(rows.getD (n-1-e.on) 0).testBit i=true)))→
  ∀k,k<n+l.length→((rowsOf l n rows).getD (n+l.length-1-k) 0).testBit i=true→∃o,ops[k]? =some o∧∃e∈o.after,Region.binds .any e=true∧(e.on=i∨(e.on<k∧((rowsOf l n rows).getD (n+l.length-1-e.on) 0).testBit i=true))
 |[],n,rows,_,_,h=>h
 |o::r,n,rows,hlen,hl,h=>by
  rw [c1V];generalize hrow:(o.after.toList.foldl (fun acc e=>if Region.binds .any e=true∧e.on<n then acc |||((1 <<<e.on) |||rows.getD (n-1-e.on) 0) else acc) 0)=row;have hlc:n+(o::r).length=(n+1)+r.length:=by simp;omega
  rw [hlc];have old:∀m,m<n→(row::rows).getD (n+1-1-m) 0=rows.getD (n-1-m) 0:=fun m hm=>by
   have:n+1-1-m=(n-1-m)+1:=by omega
   rw [this];rfl
  refine a9a r (n+1) (row::rows) (by simp [hlen]) (fun j=>by have:=hl (j+1);simpa [Nat.add_assoc,Nat.add_comm 1 j] using this) fun k hk hb=>?_
  by_cases hkn:k<n
  ·rw [old k hkn] at hb;obtain ⟨o1,h1,e,h2,h3,h4⟩:=h k hkn hb;refine ⟨o1,h1,e,h2,h3,?_⟩;rcases h4 with h4|⟨h4,h5⟩
   ·exact .inl h4
   ·exact .inr ⟨h4,by rw [old e.on (by omega)];exact h5⟩
  ·have:k=n:=by omega
   subst this;have h0:k+1-1-k=0:=by omega
   rw [h0] at hb;simp only [List.getD_cons_zero] at hb;rw [← hrow] at hb;rcases c4g 0 hb with hz|⟨e,h1,h2,h3,h4⟩
   ·simp at hz
   ·refine ⟨o,by simpa using (hl 0).symm,e,by simpa using h1,h2,?_⟩;rcases h4 with h4|h4
    ·exact .inl h4
    ·exact .inr ⟨h3,by rw [old e.on h3];exact h4⟩
theorem dE {ops:Array Oper}{listed:Array Bool}{i:Nat}(hc:eR ops listed)(hi:listed.getD i true=false)(n:Nat):∀(k:Nat),(∀o,ops[k]? =some o→∀e∈o.after,Region.binds .any e=true→listed.getD e.on false=true)→gL ops n k i=false:=by
 intro k
 induction k using Nat.strongRecOn with
 |_ k ih=>
  intro hk;cases hb:gL ops n k i with
  |false=>rfl
  |true=>
   unfold gL at hb;rw [d8D,decide_eq_true_eq] at hb;obtain ⟨hlt,hb⟩:=hb;have hsz:0+ops.toList.length=ops.size:=by simp
   obtain ⟨o,ho,e,he,hbd,h⟩:=a9a (ops:=ops) ops.toList 0 [] rfl (by simp) (fun k hk=>absurd hk (Nat.not_lt_zero _)) k (by omega) (by rw [hsz];exact hb);have h1:=hk o ho e he hbd;rcases h with h|⟨h2,h3⟩
   ·exact (c8t hi (h▸h1)).elim
   ·have:=ih e.on h2 fun o' ho'=>hc e.on h1 o' ho'
    unfold gL at this;rw [hsz] at h3;rw [h3,Bool.and_true,decide_eq_false_iff_not] at this;exact absurd (Nat.lt_trans h2 hlt) this
theorem eR.set {ops:Array Oper}{listed:Array Bool}{j:Nat}(hc:eR ops listed)(hj:j∈Region.ready .any ops listed):eR ops (listed.setIfInBounds j true):=by
 intro k hk o ho e he hb;by_cases hjk:j=k
 ·subst hjk;obtain ⟨_,o',ho',hall⟩:=mem_ready.1 hj;rw [ho] at ho';cases ho';exact getD_set_true (hall e he hb)
 ·rw [getD_set_ne false hjk] at hk;exact getD_set_true (hc k hk o ho e he hb)
theorem rT {ops:Array Oper}{o:Oper}{k j:Nat}(h:kB ops o=true)(hk:ops[k]? =some o)(hj:j<ops.size)(hne:j≠k):gL ops ops.size j k=true∨gL ops ops.size k j=true:=by have h1:=d8G.1 h k (List.mem_range.2 (d8M.1 hk).1);simp only [hk,bne_self_eq_false,Bool.false_or] at h1;have h2:=d8G.1 h1 j (List.mem_range.2 hj);simpa [hne,or_assoc] using h2
theorem wA {k:Nat}{d:DV}(h:pO d=true):mentions k d=false:=by cases d<;>first|rfl|cases h
theorem b3T (k:Nat)(v:Value):mentions k (ofConst v)=false:=by
 unfold ofConst;split
 ·split<;>rfl
 ·split<;>rfl
theorem kC {k:Nat}(h:cF k st=true):(∀v∈st.tmps,mentions k v=false)∧(∀p∈st.H,p.1≠k∧qM k p.2=true)∧(∀c∈st.own,∀l∈c.2,l.uW k=false):=by unfold cF at h;simp only [d8D,d8G,bne_iff_ne,ne_eq,Bool.not_eq_true'] at h;exact ⟨h.1.1,h.1.2,h.2⟩
theorem xG {k:Nat}(h1:∀v∈st.tmps,mentions k v=false)(h2:∀p∈st.H,p.1≠k∧qM k p.2=true)(h3:∀c∈st.own,∀l∈c.2,l.uW k=false):cF k st=true:=by unfold cF;simp only [d8D,d8G,bne_iff_ne,ne_eq,Bool.not_eq_true'];exact ⟨⟨h1,h2⟩,h3⟩
theorem qN {k:Nat}(h:cF k st=true)(x:Operand):mentions k (st.eval G x)=false:=by
 cases x with
 |tmp t=>
  simp only [St.eval,List.getD];cases ht:st.tmps[t]? with
  |none=>rfl
  |some v=>exact (kC h).1 v (d8I ht)
 |const v=>exact b3T k v
 |global g=>simp only [St.eval];split<;>rfl
 |func f=>rfl
theorem a1O {k:Nat}{o:aZ}:∀ {H:List (Nat×aZ)},getKey k H=some o→(k,o)∈H
 |[],h=>by simp [getKey] at h
 |(k',o')::r,h=>by
  unfold getKey at h;split at h
  ·rename_i he;cases h;subst he;exact .head _
  ·exact .tail _ (a1O h)
theorem wB {k:Nat}(h:cF k st=true):getKey k st.H=none:=by
 cases hk:getKey k st.H with
 |none=>rfl
 |some o=>exact absurd rfl ((kC h).2.1 _ (a1O hk)).1
theorem b5W {k k':Nat}{cs:List DV}(h:cF k st=true)(hk:getKey k' st.H=some (.cells cs)):∀c∈cs,mentions k c=false:=fun c hc=>by have:=((kC h).2.1 _ (a1O hk)).2;simp only [qM,d8G,Bool.not_eq_true'] at this;exact this c hc
theorem b8N {k:Nat}{t:TypeId}{cs:List DV}{y:DV}(hc:∀c∈cs,mentions k c=false)(h:a7c P t cs=some y):mentions k y=false:=by
 unfold a7c at h;split at h
 ·split at h
  ·split at h
   ·rcases a7f h with ⟨ds,_,rfl⟩|⟨_,rfl⟩
    ·rfl
    ·exact a1l fun c hc'=>hc c (List.mem_of_mem_take hc')
   ·cases h
  ·exact hc y (List.mem_of_head? h)
 ·cases h
where
 a1l {k:Nat}:∀ {cs:List DV},(∀c∈cs,mentions k c=false)→kH k cs=false
  |[],_=>rfl
  |c::r,h=>by simp only [kH,h c (.head _),a1l fun x hx=>h x (.tail _ hx),Bool.or_false]
theorem a1P {k:Nat}:∀ {cs:List DV},(∀c∈cs,mentions k c=false)→kH k cs=false
 |[],_=>rfl
 |c::r,h=>by simp only [kH,h c (.head _),a1P fun x hx=>h x (.tail _ hx),Bool.or_false]
theorem a7k {k:Nat}{d:DV}{cs:List DV}(h:mentions k d=false)(hc:rQ d=some cs):∀c∈cs,mentions k c=false:=by
 cases d with
 |d y=>cases hc;intro c hc;obtain ⟨z,_,rfl⟩:=List.mem_map.1 hc;rfl
 |ag cs'=>obtain ⟨_,rfl⟩:=a6k hc;intro c hc;obtain ⟨i,hi⟩:=d8U hc;exact pN (by simpa [mentions] using h) i c hi
 |undef=>cases hc
 |it _=>cases hc
 |cT _=>cases hc
 |uU _=>cases hc
 |_=>cases hc;intro c hc;simp only [d8K] at hc;subst hc;exact h
theorem a7l {k:Nat}(h:cF k st=true):∀ {l:List (Nat×Operand)} {ps:List (Nat×List DV)},vK G st l=some ps→∀p∈ps,∀c∈p.2,mentions k c=false
 |[],ps,hp=>by simp [vK] at hp;subst hp;simp
 |(i,x)::l,ps,hp=>by
  simp only [vK] at hp;split at hp
  ·rename_i y ds hy hds;simp at hp;subst hp;intro p hpm;rcases List.mem_cons.1 hpm with rfl|hpm
   ·exact a7k (qN h x) hy
   ·exact a7l h hds p hpm
  ·cases hp
theorem b2v {k:Nat}{cs ys:List DV}{off:Nat}(h1:∀c∈cs,mentions k c=false)(h2:∀c∈ys,mentions k c=false):∀c∈overwrite cs off ys,mentions k c=false:=fun c hc=>by
 unfold overwrite at hc;simp only [List.mem_append] at hc;rcases hc with (hc|hc)|hc
 ·exact h1 c (List.mem_of_mem_take hc)
 ·exact h2 c hc
 ·exact h1 c (List.mem_of_mem_drop hc)
theorem a9b {k:Nat}{t:TypeId}:∀ {ps:List (Nat×List DV)} {z r:List DV},(∀c∈z,mentions k c=false)→(∀p∈ps,∀c∈p.2,mentions k c=false)→a4R P t z ps=some r→∀c∈r,mentions k c=false
 |[],z,r,hz,_,h=>by simp [a4R] at h;subst h;exact hz
 |(i,v)::ps,z,r,hz,hp,h=>by
  simp only [a4R] at h;split at h
  ·cases h
  ·split at h
   ·exact a9b (b2v hz (hp _ (.head _))) (fun p hpm=>hp p (.tail _ hpm)) h
   ·cases h
theorem b5X (k:Nat)(v:Value):mentions k (cellOf v)=false:=by unfold cellOf;split<;>rfl
theorem b8O (t:TypeId)(k:Nat)(v:Value):mentions k (yG t v)=false:=by
 unfold yG;split
 ·rfl
 ·split<;>rfl
theorem b8P {k:Nat}{t:TypeId}{z:List DV}(h:b5B P t=some z):∀c∈z,mentions k c=false:=by
 unfold b5B at h;obtain ⟨v,_,h2⟩:=d8R.1 h;split at h2
 ·cases h2;intro c hc;obtain ⟨y,_,rfl⟩:=List.mem_map.1 hc;exact b5X k y
 ·cases h2
theorem b8Q {k:Nat}{t:TypeId}{z:List DV}(h:b5A P t=some z):∀c∈z,mentions k c=false:=by unfold b5A at h;obtain ⟨v,_,rfl⟩:=d8C.1 h;intro c hc;obtain ⟨y,_,rfl⟩:=List.mem_map.1 hc;exact b8O _ k y
theorem b5Y {o:Oper}(hq:dA o.op=true){k:Nat}(hf:cF k st=true)(h:jO P G o st=some out):mentions k out.v=false:=by
 obtain ⟨dst,op,ty,pos,after,guard⟩:=o;have he:∀x:Operand,mentions k (st.eval G x)=false:=qN hf;cases op<;>simp only [dA] at hq<;>try cases hq
 case move x=>simp only [jO,zV,d8J] at h;subst h;exact he x
 case assign x=>simp only [jO,zV,d8J] at h;subst h;exact he x
 case pick c a b=>
  simp only [jO,a8L] at h;split at h
  ·simp only [d8J] at h;subst h;simp only;split
   ·exact he a
   ·exact he b
  ·cases h
 case build t ps=>
  simp only [jO,a3Z] at h;split at h
  ·split at h
   ·obtain ⟨c,_,rfl⟩:=d8C.1 h;rfl
   ·unfold a2Q at h;split at h
    ·rename_i z qs hz hps;obtain ⟨cs,hcs,rfl⟩:=d8C.1 h;exact a1P (a9b (b8P hz) (a7l hf hps) hcs)
    ·cases h
  ·cases h
 case buildSlice t n ps=>
  simp only [jO,pW] at h;split at h
  ·split at h
   ·simp only [d8J] at h;subst h;rfl
   ·cases h
  ·cases h
 case load t x=>
  simp only [jO,a7d] at h;split at h
  ·split at h
   ·rename_i cs hk;obtain ⟨y,hy,rfl⟩:=d8C.1 h;exact b8N (fun c hc=>b5W hf hk c (List.mem_of_mem_drop hc)) hy
   ·cases h
  ·obtain ⟨y,_,rfl⟩:=d8C.1 h;rfl
  ·cases h
 case nilCheck x=>have:=he x;simp only [jO,sE] at h;split at h<;>first|(cases h;done)|(rename_i hx;rw [hx] at this;simp only [d8J] at h;subst h;exact this)
 case binOp op t x y u=>
  simp only [jO,a8M,wY,b8z] at h;split at h
  ·split at h<;>first|(cases h;done)|(simp only [d8J] at h;subst h;simp only;first|rfl|(split<;>rfl))
  ·split at h
   ·obtain ⟨c,_,rfl⟩:=d8C.1 h;rfl
   ·cases h
 case unOp op t x=>
  simp only [jO,vUn] at h;split at h
  ·obtain ⟨c,_,rfl⟩:=d8C.1 h;rfl
  ·cases h
 case convert src dst x=>
  simp only [jO,a8N] at h;split at h
  ·obtain ⟨c,_,rfl⟩:=d8C.1 h;rfl
  ·cases h
 case lookup t m k ok=>
  simp only [jO,a2R] at h;split at h
  ·split at h
   ·obtain ⟨c,_,rfl⟩:=d8C.1 h;simp only;split<;>rfl
   ·cases h
  ·cases h
 case extract x i=>
  simp only [jO,xA] at h;split at h
  ·obtain ⟨c,_,rfl⟩:=d8C.1 h;rfl
  ·cases h
 case field t x i=>
  simp only [jO,a4a] at h;split at h
  ·obtain ⟨c,_,rfl⟩:=d8C.1 h;rfl
  ·cases h
 case index t x i=>
  simp only [jO,a4b] at h;split at h
  ·obtain ⟨j,_,h⟩:=d8R.1 h;obtain ⟨c,_,rfl⟩:=d8C.1 h;rfl
  ·obtain ⟨j,_,h⟩:=d8R.1 h;obtain ⟨c,_,rfl⟩:=d8C.1 h;rfl
  ·cases h
 case indexAddr t x i=>
  have hx:=he x;simp only [jO,pX] at h;split at h
  ·obtain ⟨j,_,h⟩:=d8R.1 h;obtain ⟨c,_,h⟩:=d8R.1 h;split at h
   ·simp only [d8J] at h;subst h;rfl
   ·cases h
  ·rename_i hxe _;split at h
   ·cases h
   ·obtain ⟨j,_,rfl⟩:=d8C.1 h;rw [hxe] at hx;exact hx
  ·split at h
   ·cases h
   ·obtain ⟨j,_,rfl⟩:=d8C.1 h;rfl
  ·cases h
 case fieldAddr t x i=>
  have hx:=he x;simp only [jO,pY] at h;split at h
  ·split at h
   ·cases h
   ·split at h
    ·rename_i hxe;simp only [d8J] at h;subst h;rw [hxe] at hx;exact hx
    ·simp only [d8J] at h;subst h;rfl
    ·cases h
  ·cases h
 case slice t x lo hi mx=>
  simp only [jO,a4c] at h;split at h
  ·obtain ⟨j,_,h⟩:=d8R.1 h;obtain ⟨c,_,rfl⟩:=d8C.1 h;rfl
  ·split at h
   ·obtain ⟨j,_,h⟩:=d8R.1 h;obtain ⟨c,_,rfl⟩:=d8C.1 h;rfl
   ·cases h
  ·split at h
   ·obtain ⟨j,_,h⟩:=d8R.1 h;obtain ⟨c,_,rfl⟩:=d8C.1 h;rfl
   ·cases h
  ·split at h
   ·simp only [d8J] at h;subst h;rfl
   ·cases h
  ·split at h
   ·simp only [d8J] at h;subst h;rfl
   ·cases h
  ·cases h
 case call c=>
  obtain ⟨callee,args,ts⟩:=c;cases callee with
  |value f=>simp [jO] at h
  |invoke r m=>simp at hq
  |builtin b=>
   simp only [jO,pZ] at h;split at h
   ·simp only [c1K] at h;split at h
    ·simp only [d8J] at h;subst h;rfl
    ·simp only [d8J] at h;subst h;rfl
    ·simp only [d8J] at h;subst h;rfl
    ·split at h
     ·simp only [d8J] at h;subst h;rfl
     ·cases h
    ·cases h
   ·simp at hq
   ·simp at hq
   ·simp only [c1L] at h;split at h
    ·simp only [d8J] at h;subst h;rfl
    ·cases h
   ·simp only [c1M] at h;split at h
    ·simp only [d8J] at h;subst h;rfl
    ·cases h
   ·cases h
theorem cA {k:Nat}{dst:Option Tmp}{v:DV}{act:OA}(h:cF k st=true)(hv:mentions k v=false):cF k (finish st dst v act)=true:=by
 obtain ⟨h1,h2,h3⟩:=kC h;cases dst with
 |none=>exact h
 |some d=>
  refine xG (fun u hu=>?_) h2 (fun c hc l hl=>?_)
  ·rcases List.mem_or_eq_of_mem_set hu with hu|rfl
   ·exact h1 u hu
   ·exact hv
  ·have drop:∀c∈cL (.t d) st.own,∀l∈c.2,l.uW k=false:=fun c hc l hl=>by obtain ⟨c0,hc0,rfl⟩:=List.mem_map.1 hc;exact h3 c0 hc0 l (List.mem_filter.1 hl).1
   simp only [finish] at hc;cases act with
   |no=>exact drop c hc l hl
   |al l0=>
    simp only [eH] at hc;split at hc
    ·exact h3 c hc l hl
    ·unfold addAlias at hc;obtain ⟨c0,hc0,rfl⟩:=List.mem_map.1 hc;split at hl
     ·rcases List.mem_cons.1 hl with rfl|hl
      ·rfl
      ·exact drop c0 hc0 l hl
     ·exact drop c0 hc0 l hl
   |fresh e=>
    simp only [eH] at hc;rcases List.mem_cons.1 hc with rfl|hc
    ·simp only [d8K] at hl;subst hl;rfl
    ·exact drop c hc l hl
theorem QY.free {all:Array Oper}{o:Oper}{d:DV}{act:OA}{k:Nat}(hq:dA o.op=true)(h:QY P G all o d act st)(hf:cF k st=true):mentions k d=false:=by
 rcases h with ⟨_,⟨f,ds,own,_,_,_,hk,_⟩|⟨_,_,ho⟩|⟨_,f,d8B,ks,_,_,_,_,_,hk,_⟩⟩|⟨_,rfl,_⟩
 ·exact wA hk
 ·exact b5Y hq hf ho
 ·exact wA hk
 ·rfl
theorem eS {o:Oper}(h:(isApp o||eL o)=true):mS o=true:=by unfold mS;rw [h];rfl
theorem gM {o:Oper}(h:mS o=true):gP G o st=none∧dD G o st=none∧dA o.op=false∧a0A o=false:=by
 obtain ⟨dst,op,ty,pos,after,guard⟩:=o;cases op with
 |call c=>
  obtain ⟨callee,args,ts⟩:=c;cases callee with
  |builtin b=>cases b<;>first|exact ⟨rfl,rfl,rfl,rfl⟩|(simp [mS,isApp,eL,a7X] at h)
  |_=>simp [mS,isApp,eL,a7X] at h
 |alloc e=>exact ⟨rfl,rfl,rfl,rfl⟩
 |store _ _ _=>exact ⟨rfl,rfl,rfl,rfl⟩
 |_=>simp [mS,isApp,eL,a7X] at h
def Eff (P:Program)(G:GT)(all:Array Oper)(o:Oper)(st s:St):Prop:=
 (dA o.op=true∧∃d act,QY P G all o d act st∧s=finish st o.dst d (a3r all o act))∨
 (mS o=true∧((eA o all st.tmps=some true∧∃out,jO P G o st=some out∧s=finish out.st o.dst out.v out.act)∨(eA o all st.tmps=some false∧s=finish st o.dst (.cT []) .no)))
theorem dS {all:Array Oper}{o:Oper}{K:St→Prop}(h:(dA o.op=true∧kB all o=false)∨mS o=true):kO P G true all o K st↔∃s,Eff P G all o st s∧K s:=by
 rcases h with ⟨hq,hal⟩|hs
 ·rw [b8M hq hal];constructor
  ·rintro ⟨d,act,h1,h2⟩;exact ⟨_,.inl ⟨hq,d,act,h1,rfl⟩,h2⟩
  ·rintro ⟨s,⟨_,d,act,h1,rfl⟩|⟨hs,_⟩,h2⟩
   ·exact ⟨d,act,h1,h2⟩
   ·rw [(gM (G:=G) (st:=st) hs).2.2.1] at hq;cases hq
 ·obtain ⟨h1,h2,h3,_⟩:=gM (G:=G) (st:=st) hs;have hact:∀d act,a5a true all o d act=act:=fun d act=>by simp [a5a,h3]
  unfold kO;rw [h1,h2];simp only;constructor
  ·intro h;split at h
   ·rename_i hw;split at h
    ·rename_i out ho;rw [hact] at h;exact ⟨_,.inr ⟨hs,.inl ⟨hw,out,ho,rfl⟩⟩,h⟩
    ·cases h
   ·rename_i hw;exact ⟨_,.inr ⟨hs,.inr ⟨hw,rfl⟩⟩,h⟩
   ·cases h
  ·rintro ⟨s,⟨hq,_⟩|⟨_,⟨hw,out,ho,rfl⟩|⟨hw,rfl⟩⟩,hk⟩
   ·rw [h3] at hq;cases hq
   ·rw [hw];simp only;rw [ho];simp only;rw [hact];exact hk
   ·rw [hw];exact hk
theorem eK {x y:Option Tmp}{d e:DV}{a:OA}(h:∀t,x=some t→y≠some t)(ha:a= .no∨∃k,a= .fresh k):finish (finish st x d .no) y e a=finish (finish st y e a) x d .no:=by
 cases x with
 |none=>cases y<;>rfl
 |some t=>
  cases y with
  |none=>rfl
  |some u=>
   have hne:t≠u:=fun he=>h t rfl (he▸rfl)
   simp only [finish];rw [List.set_comm _ _ hne];congr 1;rcases ha with rfl|⟨k,rfl⟩
   ·exact oT _ _ _
   ·exact (a4l (Ne.symm hne) _).symm
theorem a5c {l x:Loc}(h:l≠x):∀own:List (TypeId×List Loc),gH l (cL x own)=(gH l own).map fun p=>(p.1,cL x p.2)
 |[]=>rfl
 |c::r=>by
  have hc:=a3E h c.2;have ih:=a5c h r;unfold cL at ih ⊢;simp only [List.map_cons,gH,hc];split
  ·rfl
  ·rw [ih];cases gH l r<;>rfl
theorem a7m {l:Loc}:∀ {own:List (TypeId×List Loc)} {e:TypeId} {eI:List (TypeId×List Loc)},gH l own=some (e,eI)→∀c∈eI,c∈own
 |c::r,e,eI,h,x,hx=>by
  unfold gH at h;split at h
  ·cases h;exact .tail _ hx
  ·obtain ⟨p,hp,he⟩:=d8C.1 h;cases he;rcases List.mem_cons.1 hx with rfl|hx
   ·exact .head _
   ·exact .tail _ (a7m hp x hx)
theorem vC {o:Oper}(h:isApp o=true)(ho:jO P G o st=some out):(∃e,out.act= .fresh e)∧(∃es,out.v= .d (.sl es))∧∃eI,out.st={ st with own:=eI }∧∀c∈eI,c∈st.own:=by
 obtain ⟨dst,op,ty,pos,after,guard⟩:=o;cases op with
 |call c=>
  obtain ⟨callee,args,ts⟩:=c;cases callee with
  |builtin b=>
   cases b<;>simp [isApp] at h;simp only [jO,pZ] at ho;split at ho
   ·rename_i h1 _ _;cases h1
   ·unfold a0s at ho;split at ho
    ·split at ho
     ·split at ho
      ·split at ho
       ·simp only [d8J] at ho;subst ho;exact ⟨⟨_,rfl⟩,⟨_,rfl⟩,st.own,rfl,fun _ h=>h⟩
       ·cases ho
      ·split at ho
       ·rename_i e' eI ht;split at ho
        ·simp only [d8J] at ho;subst ho;exact ⟨⟨_,rfl⟩,⟨_,rfl⟩,eI,rfl,a7m ht⟩
        ·cases ho
       ·cases ho
      ·cases ho
     ·cases ho
    ·cases ho
   ·rename_i h1 _ _;cases h1
   ·rename_i h1 _;cases h1
   ·rename_i h1 _;cases h1
   ·cases ho
  |_=>simp [isApp] at h
 |_=>simp [isApp] at h
theorem tS {all:Array Oper}{o:Oper}(h:isApp o=true){dst:Option Tmp}{d:DV}(hl:∀t,dst=some t→t ∉ o.looksAt all):jO P G o (finish st dst d .no)=(jO P G o st).map fun out=>⟨out.v,out.act,finish out.st dst d .no⟩:=by
 have he:=a4j (G:=G) (st:=st) (d:=d) (act:= .no) hl;obtain ⟨dst0,op,ty,pos,after,guard⟩:=o;cases op with
 |call c=>
  obtain ⟨callee,args,ts⟩:=c;cases callee with
  |builtin b=>
   cases b<;>simp [isApp] at h;have mem:∀ {x:Operand} {l:List Operand},args.toList=l→x∈l→(finish st dst d .no).eval G x=st.eval G x:=fun hl hx=>he _ (by simp only [Op.operands,Call.operands];rw [← Array.mem_toList_iff];simp [hl,hx])
   simp only [jO,pZ];split
   ·rename_i h1 _ _;cases h1
   ·rename_i s x t' t'' _ heq _;have hs:=mem heq (x:=s) (by simp);have hx:=mem heq (x:=x) (by simp);simp only [a0s,hs,hx];split
    ·split
     ·split
      ·split
       ·rfl
       ·rfl
      ·rename_i xs i _;cases dst with
       |none=>
        simp only [finish];split
        ·split
         ·rfl
         ·rfl
        ·rfl
       |some u=>
        have hne:(Loc.t i)≠ .t u:=fun e=>hl u rfl (by cases e;exact List.mem_append_left _ (List.mem_filterMap.2 ⟨.tmp i,by simp [Op.operands,Call.operands,heq],rfl⟩))
        simp only [finish,eH,a5c hne];cases gH (.t i) st.own with
        |none=>rfl
        |some p=>
         obtain ⟨e',eI⟩:=p;simp only [Option.map_some];split
         ·rfl
         ·rfl
      ·rfl
     ·rfl
    ·rfl
   ·rename_i h1 _ _;cases h1
   ·rename_i h1 _;cases h1
   ·rename_i h1 _;cases h1
   ·rfl
  |_=>simp [isApp] at h
 |_=>simp [isApp] at h
theorem b5Z {o:Oper}(h:isApp o=true){H:List (Nat×aZ)}:jO P G o { st with H:=H }=(jO P G o st).map fun out=>⟨out.v,out.act,{ out.st with H:=H }⟩:=by
 obtain ⟨dst0,op,ty,pos,after,guard⟩:=o;have he:∀x:Operand,({ st with H:=H }:St).eval G x=st.eval G x:=fun x=>by cases x<;>rfl
 cases op with
 |call c=>
  obtain ⟨callee,args,ts⟩:=c;cases callee with
  |builtin b=>
   cases b<;>simp [isApp] at h;simp only [jO,pZ];split
   ·rename_i h1 _ _;cases h1
   ·simp only [a0s,he];split
    ·split
     ·split
      ·split<;>rfl
      ·cases gH _ st.own with
       |none=>rfl
       |some p=>obtain ⟨e',eI⟩:=p;simp only;split<;>rfl
      ·rfl
     ·rfl
    ·rfl
   ·rename_i h1 _ _;cases h1
   ·rename_i h1 _;cases h1
   ·rename_i h1 _;cases h1
   ·rfl
  |_=>simp [isApp] at h
 |_=>simp [isApp] at h
theorem c1X {k:Nat}{cs:List DV}(h:∀c∈cs,mentions k c=false):qM k (a8K cs)=true:=by
 unfold a8K;split
 ·rfl
 ·simp only [qM,d8G,Bool.not_eq_true'];exact h
theorem qC {o:Oper}(h:eL o=true):∃d,o.dst=some d∧((∃cs:aZ,(∀k,qM k cs=true)∧∀st:St,jO P G o st=some ⟨.ptr d 0,.no,eW st d cs⟩)∨∀st:St,jO P G o st=none):=by
 obtain ⟨dst,op,ty,pos,after,guard⟩:=o;cases op with
 |alloc e=>
  cases dst with
  |none=>simp [eL] at h
  |some d=>
   refine ⟨d,rfl,?_⟩;simp only [jO,a6i];cases hz:jA P e with
   |some cs=>
    simp only;by_cases hd:d<100000
    ·simp only [hd,if_true];exact .inl ⟨.cells (cs.map .d),fun k=>by simp only [qM,d8G,Bool.not_eq_true'];intro c hc;obtain ⟨y,_,rfl⟩:=List.mem_map.1 hc;rfl,fun _=>rfl⟩
    ·simp only [hd,if_false];exact .inr fun _=>trivial
   |none=>
    simp only;cases hc:b5A P e with
    |some cs=>
     simp only;by_cases hd:d<100000
     ·simp only [hd,if_true];exact .inl ⟨a8K cs,fun k=>c1X (b8Q hc),fun _=>rfl⟩
     ·simp only [hd,if_false];exact .inr fun _=>trivial
    |none=>exact .inr fun _=>rfl
 |_=>simp [eL] at h
theorem a1Q {α:Type}{f:α→α}:∀ {l:List α},(∀x∈l,f x=x)→l.map f=l
 |[],_=>rfl
 |x::r,h=>by rw [List.map_cons,h x (.head _),a1Q fun y hy=>h y (.tail _ hy)]
theorem bM {k:Nat}{o:aZ}(h:cF k st=true):eW st k o={ st with H:=cI k o st.H }:=by
 obtain ⟨h1,h2,h3⟩:=kC h;unfold eW;have e1:st.tmps.map (jP k)=st.tmps:=a1Q fun v hv=>by unfold jP;rw [h1 v hv,if_neg (by simp)]
 have e2:(st.H.map fun p=>(p.1,yF k p.2))=st.H:=a1Q fun p hp=>by
  obtain ⟨a,b⟩:=p;have:=(h2 _ hp).2;cases b with
  |cells cs=>simp only [qM,d8G,Bool.not_eq_true'] at this;simp only [yF];rw [a1Q fun v hv=>by unfold jP;rw [this v hv,if_neg (by simp)]]
  |_=>rfl
 have e3:dropKey k st.own=st.own:=a1Q fun c hc=>by obtain ⟨a,b⟩:=c;simp only;rw [List.filter_eq_self.2 fun l hl=>by simp [h3 _ hc l hl]]
 rw [e1,e2,e3]
theorem a7n {k:Nat}{o:aZ}:∀ {H:List (Nat×aZ)} {p:Nat×aZ},p∈wW k o H→p=(k,o)∨p∈H
 |(k',o')::r,p,h=>by
  unfold wW at h;split at h
  ·rcases List.mem_cons.1 h with h|h
   ·exact .inl h
   ·exact .inr (.tail _ h)
  ·rcases List.mem_cons.1 h with h|h
   ·exact .inr (h▸ .head _)
   ·rcases a7n h with h|h
    ·exact .inl h
    ·exact .inr (.tail _ h)
theorem a7o {k:Nat}{o:aZ}:∀ {H:List (Nat×aZ)} {p:Nat×aZ},p∈jT k o H→p=(k,o)∨p∈H
 |[],p,h=>by simp [jT] at h;exact .inl h
 |(k',o')::r,p,h=>by
  unfold jT at h;split at h
  ·rcases List.mem_cons.1 h with h|h
   ·exact .inl h
   ·exact .inr h
  ·rcases List.mem_cons.1 h with h|h
   ·exact .inr (h▸ .head _)
   ·rcases a7o h with h|h
    ·exact .inl h
    ·exact .inr (.tail _ h)
theorem a1R {k:Nat}{o:aZ}{H:List (Nat×aZ)}{p:Nat×aZ}(h:p∈cI k o H):p=(k,o)∨p∈H:=by
 unfold cI at h;split at h
 ·exact a7n h
 ·exact a7o h
theorem a1S {k d:Nat}{cs:aZ}(hd:d≠k)(hc:qM k cs=true)(h:cF k st=true):cF k (eW st d cs)=true:=by
 obtain ⟨h1,h2,h3⟩:=kC h;have kill:∀v:DV,mentions k v=false→mentions k (jP d v)=false:=fun v hv=>by
  unfold jP;split
  ·rfl
  ·exact hv
 refine xG (fun v hv=>?_) (fun p hp=>?_) fun c hcc l hl=>?_
 ·obtain ⟨u,hu,rfl⟩:=List.mem_map.1 hv;exact kill u (h1 u hu)
 ·rcases a1R hp with rfl|hp
  ·exact ⟨hd,hc⟩
  ·obtain ⟨q,hq,rfl⟩:=List.mem_map.1 hp;obtain ⟨q1,q2⟩:=h2 q hq;refine ⟨q1,?_⟩;cases hq2:q.2 with
   |cells c0=>rw [hq2] at q2;simp only [qM,yF,d8G,Bool.not_eq_true'] at q2 ⊢;intro v hv;obtain ⟨u,hu,rfl⟩:=List.mem_map.1 hv;exact kill u (q2 u hu)
   |_=>rfl
 ·obtain ⟨c0,hc0,rfl⟩:=List.mem_map.1 hcc;exact h3 c0 hc0 l (List.mem_filter.1 hl).1
theorem b3U (k:Nat)(x:Loc)(own:List (TypeId×List Loc)):dropKey k (cL x own)=cL x (dropKey k own):=by
 simp only [dropKey,cL,List.map_map];refine List.map_congr_left fun c _=>?_
 simp only [Function.comp,List.filter_filter,Bool.and_comm]
theorem a5d {o:Oper}(h:a7X o=true):o.dst=none∧∃t a x,o.op= .store t a x:=by
 obtain ⟨dst,op,ty,pos,after,guard⟩:=o;cases op with
 |store t a x=>
  cases dst with
  |none=>exact ⟨rfl,t,a,x,rfl⟩
  |some d=>simp [a7X] at h
 |_=>simp [a7X] at h
theorem c4h {o:Oper}(h:a7X o=true)(ho:jO P G o st=some out):out.v= .cT []∧out.act= .no∧out.st.tmps=st.tmps:=by
 obtain ⟨_,t,a,x,hop⟩:=a5d h;simp only [jO,hop,pJ] at ho;split at ho
 ·split at ho
  ·split at ho
   ·simp only [d8J] at ho;subst ho;exact ⟨rfl,rfl,rfl⟩
   ·cases ho
  ·cases ho
 ·cases ho
theorem b2w {all:Array Oper}{o:Oper}(h:a7X o=true){dst:Option Tmp}{d:DV}(hl:∀t,dst=some t→t ∉ o.looksAt all):jO P G o (finish st dst d .no)=(jO P G o st).map fun out=>⟨out.v,out.act,finish out.st dst d .no⟩:=by
 have he:=a4j (G:=G) (st:=st) (d:=d) (act:= .no) hl;obtain ⟨_,t,a,x,hop⟩:=a5d h;have ha:=he a (by simp [hop,Op.operands]);have hx:=he x (by simp [hop,Op.operands]);have hxl:∀u s,dst=some u→rR x= .al (.t s)→s≠u:=fun u s hu hs e=>by
  cases x with
  |tmp j=>simp only [rR,OA.al.injEq,Loc.t.injEq] at hs;exact hl u hu (by rw [← e, ← hs];exact List.mem_append_left _ (List.mem_filterMap.2 ⟨.tmp j,by simp [hop,Op.operands],rfl⟩))
  |_=>cases hs
 simp only [jO,hop,pJ,ha,hx,a1N];split
 ·rename_i k off ys _ _;split
  ·split
   ·simp only [Option.map_some,d8J,Out.mk.injEq,true_and];cases dst with
    |none=>rfl
    |some u=>
     simp only [finish,St.mk.injEq,true_and];split
     ·rcases yK (st.eval G x) (rR x) with h1|h1
      ·rw [h1];exact (oT _ _ _)
      ·rw [h1];cases hx':rR x with
       |no=>exact (oT _ _ _)
       |al l=>
        cases x with
        |tmp j=>
         simp only [rR,OA.al.injEq] at hx';subst hx';have hju:(Loc.t j)≠ .t u:=fun e=>hxl u j rfl rfl (by cases e;rfl)
         simp only [eH];rw [if_neg (by simp),if_neg (by simp),oT,a8Y hju (by simp)]
        |_=>cases hx'
       |fresh e=>cases x<;>cases hx'
     ·exact b3U _ _ _
   ·rfl
  ·rfl
 ·rfl
theorem c4i {o:Oper}(hq:a4i o.op=true){st':St}(he:∀x∈o.op.operands,st'.eval G x=st.eval G x):jO P G o st'=(jO P G o st).map fun out=>⟨out.v,out.act,st'⟩:=by
 obtain ⟨dst,op,ty,pos,after,guard⟩:=o;have sF:∀(x:Option Operand) (d n:Nat),(∀y,x=some y→st'.eval G y=st.eval G y)→gB G st' x d n=gB G st x d n:=fun x d n hx=>by
  cases x with
  |none=>rfl
  |some y=>simp only [gB,hx y rfl]
 cases op<;>simp only [a4i] at hq<;>try cases hq
 all_goals simp only [Op.operands] at he
 case move x=>simp [jO,zV,he]
 case assign x=>simp [jO,zV,he]
 case pick c a b=>simp only [jO,a8L,he c (by simp),he a (by simp),he b (by simp)];split<;>rfl
 case nilCheck x=>simp only [jO,sE,he x (by simp)];split<;>rfl
 case binOp op t x y u=>
  simp only [jO,a8M,wY,b8z,he x (by simp),he y (by simp)];split
  ·split<;>rfl
  ·split
   ·simp [Option.map_map,Function.comp_def]
   ·rfl
 case unOp op t x=>
  simp only [jO,vUn,he x (by simp)];split
  ·simp [Option.map_map,Function.comp_def]
  ·rfl
 case convert src dst x=>
  simp only [jO,a8N,he x (by simp)];split
  ·simp [Option.map_map,Function.comp_def]
  ·rfl
 case extract x i=>
  simp only [jO,xA,he x (by simp)];split
  ·simp [Option.map_map,Function.comp_def]
  ·rfl
 case field t x i=>
  simp only [jO,a4a,he x (by simp)];split
  ·simp [Option.map_map,Function.comp_def]
  ·rfl
 case index t x i=>
  simp only [jO,a4b,he x (by simp),he i (by simp)];split
  ·simp [Option.map_bind,Option.map_map,Function.comp_def]
  ·simp [Option.map_bind,Option.map_map,Function.comp_def]
  ·rfl
 case indexAddr t x i=>
  simp only [jO,pX,he x (by simp),he i (by simp)];split
  ·rw [Option.map_bind];congr 1;funext j;simp only [Function.comp];rw [Option.map_bind];congr 1;funext cs;simp only [Function.comp];split<;>rfl
  ·split
   ·rfl
   ·simp [Option.map_map,Function.comp_def]
  ·split
   ·rfl
   ·simp [Option.map_map,Function.comp_def]
  ·rfl
 case fieldAddr t x i=>
  simp only [jO,pY,he x (by simp)];split
  ·split
   ·rfl
   ·split<;>rfl
  ·rfl
 case slice t x lo hi mx=>
  have sO:∀y,lo=some y→st'.eval G y=st.eval G y:=fun y hy=>he y (by simp [hy])
  have hhi:∀y,hi=some y→st'.eval G y=st.eval G y:=fun y hy=>he y (by simp [hy])
  have hmx:∀y,mx=some y→st'.eval G y=st.eval G y:=fun y hy=>he y (by simp [hy])
  simp only [jO,a4c,he x (by simp),sF lo _ _ sO,sF hi _ _ hhi];split
  ·simp [Option.map_bind,Option.map_map,Function.comp_def]
  ·split
   ·simp [Option.map_bind,Option.map_map,Function.comp_def]
   ·rfl
  ·split
   ·simp [Option.map_bind,Option.map_map,Function.comp_def]
   ·rfl
  ·rw [sF (some _) _ _ fun y hy=>hmx y hy];split<;>rfl
  ·rw [sF (some _) _ _ fun y hy=>hmx y hy];split<;>rfl
  ·rfl
theorem kP {o:Oper}(h:a4i o.op=true):dA o.op=true∧dD G o st=none∧gP G o st=none:=by obtain ⟨dst,op,ty,pos,after,guard⟩:=o;cases op<;>simp only [a4i] at h<;>first|exact ⟨rfl,rfl,rfl⟩|cases h
theorem QY.pure {all:Array Oper}{o:Oper}{d:DV}{ac:OA}{st':St}(h:QY P G all o d ac st)(hq:a4i o.op=true)(ht:st'.tmps=st.tmps):QY P G all o d ac st':=by
 have he:∀x:Operand,st'.eval G x=st.eval G x:=fun x=>by cases x<;>simp [St.eval,ht]
 obtain ⟨_,h1,h2⟩:=kP (G:=G) (st:=st) hq;obtain ⟨_,h1',h2'⟩:=kP (G:=G) (st:=st') hq;rcases h with ⟨hw,⟨f,ds,own,hc,_⟩|⟨hc,hch,ho⟩|⟨hc,f,d8B,ks,hch,_⟩⟩|⟨hw,h3⟩
 ·rw [h2] at hc;cases hc
 ·exact .inl ⟨by rw [ht];exact hw,.inr (.inl ⟨h2',h1',by rw [c4i hq (fun x _=>he x),ho];rfl⟩)⟩
 ·rw [h1] at hch;cases hch
 ·exact .inr ⟨by rw [ht];exact hw,h3⟩
theorem a9c {o:Oper}{k:Nat}{t:TypeId}{ad x:Operand}(ho:o.op= .store t ad x)(hf:cF k st=true)(h:jO P G o st=some out):cF k out.st=true∧mentions k out.v=false:=by
 obtain ⟨h1,h2,h3⟩:=kC hf;simp only [jO,ho,pJ] at h;split at h
 ·rename_i key off ys ha hx;have hne:key≠k:=fun e=>by have:=qN (G:=G) hf ad;rw [ha] at this;simp only [mentions,beq_eq_false_iff_ne,ne_eq] at this;exact this e
  split at h
  ·rename_i cs hk;split at h
   ·simp only [d8J] at h;subst h;refine ⟨xG h1 (fun p hp=>?_) fun c hc l hl=>?_,rfl⟩
    ·rcases a1R hp with rfl|hp
     ·refine ⟨hne,?_⟩;simp only [qM,d8G,Bool.not_eq_true'];exact b2v (fun c hc=>b5W hf hk c hc) (a7k (qN hf x) hx)
     ·exact h2 p hp
    ·simp only at hc;have drop:∀c∈cL (.c key off) st.own,∀l∈c.2,l.uW k=false:=fun c hc l hl=>by obtain ⟨c0,hc0,rfl⟩:=List.mem_map.1 hc;exact h3 c0 hc0 l (List.mem_filter.1 hl).1
     have hkk:(Loc.c key off).uW k=false:=by simp [Loc.uW,hne]
     split at hc
     ·generalize pV (st.eval G x) (rR x)=act at hc;cases act with
      |no=>exact drop c hc l hl
      |al l0=>
       simp only [eH] at hc;split at hc
       ·exact h3 c hc l hl
       ·unfold addAlias at hc;obtain ⟨c0,hc0,rfl⟩:=List.mem_map.1 hc;split at hl
        ·rcases List.mem_cons.1 hl with rfl|hl
         ·exact hkk
         ·exact drop c0 hc0 l hl
        ·exact drop c0 hc0 l hl
      |fresh e=>
       simp only [eH] at hc;rcases List.mem_cons.1 hc with rfl|hc
       ·simp only [d8K] at hl;subst hl;exact hkk
       ·exact drop c hc l hl
     ·obtain ⟨c0,hc0,rfl⟩:=List.mem_map.1 hc;exact h3 c0 hc0 l (List.mem_filter.1 hl).1
   ·cases h
  ·cases h
 ·cases h
theorem rM {all:Array Oper}{o:Oper}{s:St}{k:Nat}(h:Eff P G all o st s)(hf:cF k st=true)(hn:eL o=true→o.dst≠some k):cF k s=true:=by
 rcases h with ⟨hq,d,act,hy,rfl⟩|⟨hs,⟨hw,out,ho,rfl⟩|⟨hw,rfl⟩⟩
 ·exact cA hf (hy.free hq hf)
 ·cases ha:isApp o with
  |true=>
   obtain ⟨_,⟨es,hv⟩,eI,hst,hsub⟩:=vC ha ho;obtain ⟨h1,h2,h3⟩:=kC hf;refine cA ?_ (by rw [hv];rfl)
   rw [hst];exact xG h1 h2 fun c hc=>h3 c (hsub c hc)
  |false=>
   cases hs2:eL o with
   |true=>
    obtain ⟨d,hd,⟨cs,hcs,hv⟩|hv⟩:=qC (P:=P) (G:=G) hs2
    ·rw [hv] at ho;cases ho;have hdk:d≠k:=fun e=>hn hs2 (e▸hd)
     exact cA (a1S hdk (hcs k) hf) (by simp [mentions,hdk])
    ·rw [hv] at ho;cases ho
   |false=>
    have hst:a7X o=true:=by simpa [mS,ha,hs2] using hs
    obtain ⟨_,t,a,x,hop⟩:=a5d hst;obtain ⟨h1,h2⟩:=a9c hop hf ho;exact cA h1 h2
 ·exact cA hf rfl
theorem wP {H:List (Nat×aZ)}(x:Operand):({ st with H:=H }:St).eval G x=st.eval G x:=by cases x<;>rfl
theorem a7p {own:List (TypeId×List Loc)}(x:Operand):({ st with own:=own }:St).eval G x=st.eval G x:=by cases x<;>rfl
theorem b2x {ops:Array Oper}{o:Oper}(h:eL o=true):rD ops o=false:=by
 obtain ⟨dst,op,ty,pos,after,guard⟩:=o;cases op with
 |alloc e=>cases guard<;>cases dst<;>rfl
 |_=>simp [eL] at h
theorem a5e {ops:Array Oper}{x y:Oper}{s1 s12:St}(hap:x.apart ops y=true)(hp:oS ops x y=true)(fx:eL x=true→∀d,x.dst=some d→cF d st=true)(fy:eL y=true→∀d,y.dst=some d→cF d st=true)(h1:Eff P G ops x st s1)(h2:Eff P G ops y s1 s12):∃s2,Eff P G ops y st s2∧Eff P G ops x s2 s12:=by
 obtain ⟨a1,a2,a3⟩:=Oper.apart_spec hap;have a2':∀t,y.dst=some t→x.dst≠some t:=fun t ht he=>a2 t he ht
 unfold oS at hp;simp only [d8P,d8D,Bool.not_eq_true'] at hp;have noq:∀ {o:Oper} {a:OA},rD ops o=false→a3r ops o a= .no:=fun hn=>by unfold a3r;rw [hn];rfl
 rcases hp with ((((((⟨⟨hqx,hqy⟩,hnn⟩|⟨⟨hqx,hsy⟩,hnx⟩)|⟨⟨⟨hsx,hqy⟩,hny⟩,hcy⟩)|⟨hqx,hnewy⟩)|⟨⟨hnewx,hqy⟩,hcy⟩)|⟨⟨hsx,hsy⟩,hnn⟩)|⟨⟨hpx,hnx⟩,hsy⟩)|⟨⟨hsx,hpy⟩,hny⟩
 ·
  rcases h1 with ⟨_,d,ax,hx,rfl⟩|⟨hs,_⟩
  ·rcases h2 with ⟨_,e,ay,hy,rfl⟩|⟨hs,_⟩
   ·have hy':=(QY.finish hqy a1).1 hy;refine ⟨_,.inl ⟨hqy,e,ay,hy',rfl⟩,.inl ⟨hqx,d,ax,(QY.finish hqx a3).2 hx,?_⟩⟩;exact vB a2 a1 a3 hnn hx.act hy'.act
   ·rw [(gM (G:=G) (st:=st) hs).2.2.1] at hqy;cases hqy
  ·rw [(gM (G:=G) (st:=st) hs).2.2.1] at hqx;cases hqx
 ·
  have hsy':(isApp y||eL y)=true:=by simp [hsy]
  rcases h1 with ⟨_,d,ax,hx,rfl⟩|⟨hs,_⟩
  ·rw [noq hnx] at h2;rcases h2 with ⟨hq,_⟩|⟨_,⟨hw,out,ho,rfl⟩|⟨hw,rfl⟩⟩
   ·rw [(gM (G:=G) (st:=st) (eS hsy')).2.2.1] at hq;cases hq
   ·rw [bB a1] at hw;cases ha:isApp y with
    |true=>
     rw [tS ha a1] at ho;obtain ⟨out0,ho0,rfl⟩:=d8C.1 ho;obtain ⟨⟨e,hact⟩,_,eI,hst,hsub⟩:=vC ha ho0;refine ⟨_,.inr ⟨eS hsy',.inl ⟨hw,out0,ho0,rfl⟩⟩,.inl ⟨hqx,d,ax,?_,?_⟩⟩
     ·refine (QY.finish hqx a3).2 ?_
      rw [hst];refine QY.to hx hqx rfl (fun z _=>a7p z) (fun _ _ _ _=>rfl) (fun _ _ _ h=>h) (fun _ ks _ hno=>?_);exact d8G.2 fun c hc=>d8G.1 hno c (hsub c hc)
     ·simp only;rw [noq hnx,hact,eK a2 (.inr ⟨e,rfl⟩)]
    |false=>
     have hny:eL y=true:=by simpa [ha] using hsy'
     obtain ⟨k,hk,⟨cs,hcs,hv⟩|hv⟩:=qC (P:=P) (G:=G) hny
     ·have hf:=fy hny k hk;have hfd:=hx.free hqx hf;have hf1:cF k (finish st x.dst d .no)=true:=cA hf hfd;rw [hv] at ho;cases ho;rw [bM hf1];refine ⟨_,.inr ⟨eS hsy',.inl ⟨hw,_,hv st,rfl⟩⟩,.inl ⟨hqx,d,ax,?_,?_⟩⟩
      ·refine (QY.finish hqx a3).2 ?_
       simp only;rw [bM hf];refine QY.to hx hqx rfl (fun z _=>wP z) (fun z _ k' hm=>?_) (fun _ k' ob hkk=>?_) (fun _ ks _ hno=>hno)
       ·have:k≠k':=fun e=>by subst e;rw [qN hf z] at hm;cases hm
        exact jE _ this _
       ·have:k≠k':=fun e=>by subst e;rw [wB hf] at hkk;cases hkk
        rw [jE _ this];exact hkk
      ·simp only;rw [noq hnx,bM hf, ← eK a2 (.inl rfl)];congr 1;cases x.dst<;>rfl
     ·rw [hv] at ho;cases ho
   ·rw [bB a1] at hw;refine ⟨_,.inr ⟨eS hsy',.inr ⟨hw,rfl⟩⟩,.inl ⟨hqx,d,ax,(QY.finish hqx a3).2 hx,?_⟩⟩;rw [noq hnx,eK a2 (.inl rfl)]
  ·rw [(gM (G:=G) (st:=st) hs).2.2.1] at hqx;cases hqx
 ·
  have hsx':(isApp x||eL x)=true:=by simp [hsx]
  rcases h2 with ⟨_,e,ay,hy,rfl⟩|⟨hs,_⟩
  ·rcases h1 with ⟨hq,_⟩|⟨_,⟨hw,out,ho,rfl⟩|⟨hw,rfl⟩⟩
   ·rw [(gM (G:=G) (st:=st) (eS hsx')).2.2.1] at hq;cases hq
   ·cases ha:isApp x with
    |true=>
     obtain ⟨⟨k,hact⟩,_,eI,hst,hsub⟩:=vC ha ho;have hy':QY P G ops y e ay st:=by have h3:=(QY.finish hqy a1).1 hy;rw [hst] at h3;exact h3.to hqy rfl (fun z _=>(a7p z).symm) (fun _ _ _ _=>rfl) (fun _ _ _ h=>h) fun hc=>by rw [hcy] at hc;cases hc
     refine ⟨_,.inl ⟨hqy,e,ay,hy',rfl⟩,.inr ⟨eS hsx',.inl ⟨by rw [bB a3];exact hw,⟨out.v,out.act,finish out.st y.dst e .no⟩,?_,?_⟩⟩⟩
     ·rw [noq hny,tS ha a3,ho];rfl
     ·simp only;rw [noq hny,hact,eK a2' (.inr ⟨k,rfl⟩)]
    |false=>
     have hnx:eL x=true:=by simpa [ha] using hsx'
     obtain ⟨k,hk,⟨cs,hcs,hv⟩|hv⟩:=qC (P:=P) (G:=G) hnx
     ·have hf:=fx hnx k hk;rw [hv] at ho;cases ho;have hy':QY P G ops y e ay st:=by
       have h3:=(QY.finish hqy a1).1 hy;simp only at h3;rw [bM hf] at h3;refine h3.to hqy rfl (fun z _=>(wP z).symm) (fun z _ k' hm=>?_) (fun hc=>by rw [hcy] at hc;cases hc) fun hc=>by rw [hcy] at hc;cases hc
       rw [wP] at hm;have:k≠k':=fun e=>by subst e;rw [qN hf z] at hm;cases hm
       exact (jE _ this _).symm
      have hf2:cF k (finish st y.dst e .no)=true:=cA hf (hy'.free hqy hf);refine ⟨_,.inl ⟨hqy,e,ay,hy',rfl⟩,.inr ⟨eS hsx',.inl ⟨by rw [bB a3];exact hw,_,hv _,?_⟩⟩⟩;simp only;rw [noq hny,bM hf,bM hf2,eK a2 (.inl rfl)];cases y.dst<;>rfl
     ·rw [hv] at ho;cases ho
   ·have hy':=(QY.finish hqy a1).1 hy;refine ⟨_,.inl ⟨hqy,e,ay,hy',rfl⟩,.inr ⟨eS hsx',.inr ⟨by rw [bB a3];exact hw,?_⟩⟩⟩;rw [noq hny,eK a2' (.inl rfl)]
  ·rw [(gM (G:=G) (st:=st) hs).2.2.1] at hqy;cases hqy
 ·
  have hss:mS y=true:=eS (by simp [hnewy]);have hnoy:rD ops y=false:=b2x hnewy;rcases h1 with ⟨_,d,ax,hx,rfl⟩|⟨hs,_⟩
  ·rcases h2 with ⟨hq,_⟩|⟨_,⟨hw,out,ho,rfl⟩|⟨hw,rfl⟩⟩
   ·rw [(gM (G:=G) (st:=st) hss).2.2.1] at hq;cases hq
   ·rw [bB a1] at hw;obtain ⟨k,hk,⟨cs,hcs,hv⟩|hv⟩:=qC (P:=P) (G:=G) hnewy
    ·have hf:=fy hnewy k hk;have hfd:=hx.free hqx hf;have hf1:cF k (finish st x.dst d (a3r ops x ax))=true:=cA hf hfd;rw [hv] at ho;cases ho;rw [bM hf1];refine ⟨_,.inr ⟨hss,.inl ⟨hw,_,hv st,rfl⟩⟩,.inl ⟨hqx,d,ax,?_,?_⟩⟩
     ·refine (QY.finish hqx a3).2 ?_
      simp only;rw [bM hf];refine QY.to hx hqx rfl (fun z _=>wP z) (fun z _ k' hm=>?_) (fun _ k' ob hkk=>?_) (fun _ ks _ hno=>hno)
      ·have:k≠k':=fun e=>by subst e;rw [qN hf z] at hm;cases hm
       exact jE _ this _
      ·have:k≠k':=fun e=>by subst e;rw [wB hf] at hkk;cases hkk
       rw [jE _ this];exact hkk
     ·simp only;rw [bM hf, ← vB a2 a1 a3 (by rw [hnoy,Bool.and_false]) hx.act (.inl rfl)];congr 1;cases x.dst<;>rfl
    ·rw [hv] at ho;cases ho
   ·rw [bB a1] at hw;refine ⟨_,.inr ⟨hss,.inr ⟨hw,rfl⟩⟩,.inl ⟨hqx,d,ax,(QY.finish hqx a3).2 hx,?_⟩⟩;exact vB a2 a1 a3 (by rw [hnoy,Bool.and_false]) hx.act (.inl rfl)
  ·rw [(gM (G:=G) (st:=st) hs).2.2.1] at hqx;cases hqx
 ·
  have hss:mS x=true:=eS (by simp [hnewx]);have hnox:rD ops x=false:=b2x hnewx;rcases h2 with ⟨_,e,ay,hy,rfl⟩|⟨hs,_⟩
  ·rcases h1 with ⟨hq,_⟩|⟨_,⟨hw,out,ho,rfl⟩|⟨hw,rfl⟩⟩
   ·rw [(gM (G:=G) (st:=st) hss).2.2.1] at hq;cases hq
   ·obtain ⟨k,hk,⟨cs,hcs,hv⟩|hv⟩:=qC (P:=P) (G:=G) hnewx
    ·have hf:=fx hnewx k hk;rw [hv] at ho;cases ho;have hy':QY P G ops y e ay st:=by
      have h3:=(QY.finish hqy a1).1 hy;simp only at h3;rw [bM hf] at h3;refine QY.to h3 hqy rfl (fun z _=>(wP z).symm) (fun z _ k' hm=>?_) (fun hc=>by rw [hcy] at hc;cases hc) (fun hc=>by rw [hcy] at hc;cases hc);rw [wP] at hm;have:k≠k':=fun e=>by subst e;rw [qN hf z] at hm;cases hm
      exact (jE _ this _).symm
     have hf2:cF k (finish st y.dst e (a3r ops y ay))=true:=cA hf (hy'.free hqy hf);refine ⟨_,.inl ⟨hqy,e,ay,hy',rfl⟩,.inr ⟨hss,.inl ⟨by rw [bB a3];exact hw,_,hv _,?_⟩⟩⟩;simp only;rw [bM hf,bM hf2,vB a2 a1 a3 (by rw [hnox,Bool.false_and]) (.inl rfl) hy'.act];cases y.dst<;>rfl
    ·rw [hv] at ho;cases ho
   ·have hy':=(QY.finish hqy a1).1 hy;refine ⟨_,.inl ⟨hqy,e,ay,hy',rfl⟩,.inr ⟨hss,.inr ⟨by rw [bB a3];exact hw,?_⟩⟩⟩;exact vB a2 a1 a3 (by rw [hnox,Bool.false_and]) (.inl rfl) hy'.act
  ·rw [(gM (G:=G) (st:=st) hs).2.2.1] at hqy;cases hqy
 ·
  have hsx':(isApp x||eL x)=true:=by simpa using hsx
  have hsy':(isApp y||eL y)=true:=by simpa using hsy
  have nq:∀ {o:Oper},(isApp o||eL o)=true→ ¬dA o.op=true:=fun h=>by rw [(gM (G:=G) (st:=st) (eS h)).2.2.1];simp
  have na:∀ {o:Oper},eL o=true→isApp o=false:=fun {o} h=>by obtain ⟨dst,op,ty,pos,after,guard⟩:=o;cases op<;>first|rfl|(simp [eL] at h)
  rcases h1 with ⟨hq,_⟩|⟨_,⟨hwx,out,ho,rfl⟩|⟨hwx,rfl⟩⟩
  ·exact absurd hq (nq hsx')
  ·
   rcases h2 with ⟨hq,_⟩|⟨_,⟨hw,out2,ho2,rfl⟩|⟨hw,rfl⟩⟩
   ·exact absurd hq (nq hsy')
   ·cases hx:eL x with
    |true=>
     obtain ⟨k,hk,⟨cs,hcs,hv⟩|hv⟩:=qC (P:=P) (G:=G) hx
     ·have hf:=fx hx k hk;rw [hv] at ho;cases ho;rw [bM hf] at hw ho2;rw [bB a1] at hw;cases hy:eL y with
      |true=>
       obtain ⟨k2,hk2,⟨cs2,hcs2,hv2⟩|hv2⟩:=qC (P:=P) (G:=G) hy
       ·have hf2:=fy hy k2 hk2;have hne:k≠k2:=fun e=>a2 k hk (e▸hk2)
        have hm:mentions k2 (.ptr k 0)=false:=by simp [mentions,hne]
        have hm2:mentions k (.ptr k2 0)=false:=by simp [mentions,Ne.symm hne]
        have g1:cF k2 (finish { st with H:=cI k cs st.H } x.dst (.ptr k 0) .no)=true:=cA (by have:=a1S hne (hcs k2) hf2;rwa [bM hf] at this) hm;have g2:cF k (finish { st with H:=cI k2 cs2 st.H } y.dst (.ptr k2 0) .no)=true:=cA (by have:=a1S (Ne.symm hne) (hcs2 k) hf;rwa [bM hf2] at this) hm2;rw [hv2] at ho2;cases ho2;refine ⟨_,.inr ⟨eS hsy',.inl ⟨hw,_,hv2 st,rfl⟩⟩,.inr ⟨eS hsx',.inl ⟨by simp only;rw [bB a3,bM hf2];exact hwx,_,hv _,?_⟩⟩⟩;simp only;rw [bM hf2,bM g1,bM g2];have e1:({ finish { st with H:=cI k cs st.H } x.dst (.ptr k 0) .no with H:=cI k2 cs2 (finish { st with H:=cI k cs st.H } x.dst (.ptr k 0) .no).H }:St)=finish { st with H:=cI k2 cs2 (cI k cs st.H) } x.dst (.ptr k 0) .no:=by cases x.dst<;>rfl
        have e2:({ finish { st with H:=cI k2 cs2 st.H } y.dst (.ptr k2 0) .no with H:=cI k cs (finish { st with H:=cI k2 cs2 st.H } y.dst (.ptr k2 0) .no).H }:St)=finish { st with H:=cI k cs (cI k2 cs2 st.H) } y.dst (.ptr k2 0) .no:=by cases y.dst<;>rfl
        rw [e1,e2,b5E hne _ _ (wB hf) (wB hf2)];exact eK a2 (.inl rfl)
       ·rw [hv2] at ho2;cases ho2
      |false=>
       have hay:isApp y=true:=by simpa [hy] using hsy'
       rw [tS hay a1,b5Z hay] at ho2;obtain ⟨o1,ho1,rfl⟩:=d8C.1 ho2;obtain ⟨o0,ho0,rfl⟩:=d8C.1 ho1;obtain ⟨⟨e,hact⟩,_,eI,hst,hsub⟩:=vC hay ho0;have heff:Eff P G ops y st (finish o0.st y.dst o0.v o0.act):= .inr ⟨eS hsy',.inl ⟨hw,o0,ho0,rfl⟩⟩;have g2:cF k (finish o0.st y.dst o0.v o0.act)=true:=rM heff hf fun h=>by rw [hy] at h;cases h
       refine ⟨_,.inr ⟨eS hsy',.inl ⟨hw,o0,ho0,rfl⟩⟩,.inr ⟨eS hsx',.inl ⟨by rw [bB a3,hst];exact hwx,_,hv _,?_⟩⟩⟩;simp only;rw [bM g2,hact,eK a2 (.inr ⟨e,rfl⟩),hst];cases y.dst<;>rfl
     ·rw [hv] at ho;cases ho
    |false=>
     have hax:isApp x=true:=by simpa [hx] using hsx'
     have hy:eL y=true:=by simpa [hx] using hnn
     obtain ⟨⟨e,hact⟩,⟨es,hvv⟩,eI,hst,hsub⟩:=vC hax ho;obtain ⟨k2,hk2,⟨cs2,hcs2,hv2⟩|hv2⟩:=qC (P:=P) (G:=G) hy
     ·have hf2:=fy hy k2 hk2;have heff:Eff P G ops x st (finish out.st x.dst out.v out.act):= .inr ⟨eS hsx',.inl ⟨hwx,out,ho,rfl⟩⟩;have g1:cF k2 (finish out.st x.dst out.v out.act)=true:=rM heff hf2 fun h=>by rw [hx] at h;cases h
      rw [bB a1,hst] at hw;rw [hv2] at ho2;cases ho2;refine ⟨_,.inr ⟨eS hsy',.inl ⟨hw,_,hv2 st,rfl⟩⟩,.inr ⟨eS hsx',.inl ⟨by simp only;rw [bB a3,bM hf2];exact hwx,⟨out.v,out.act,finish { out.st with H:=cI k2 cs2 out.st.H } y.dst (.ptr k2 0) .no⟩,?_,?_⟩⟩⟩
      ·simp only;rw [bM hf2,tS hax a3,b5Z hax,ho];simp only [Option.map_some,hst]
      ·simp only;rw [bM g1,hact,eK a2' (.inr ⟨e,rfl⟩),hst];congr 1;cases x.dst<;>rfl
     ·rw [hv2] at ho2;cases ho2
   ·
    have hst:out.st.tmps.length=out.st.tmps.length:=rfl;have hwy:eA y ops st.tmps=some false:=by
     rw [bB a1] at hw;cases hx:eL x with
     |true=>
      obtain ⟨k,hk,⟨cs,hcs,hv⟩|hv⟩:=qC (P:=P) (G:=G) hx
      ·rw [hv] at ho;cases ho;rw [bM (fx hx k hk)] at hw;exact hw
      ·rw [hv] at ho;cases ho
     |false=>obtain ⟨_,_,eI,hst,_⟩:=vC (by simpa [hx] using hsx') ho;rw [hst] at hw;exact hw
    refine ⟨_,.inr ⟨eS hsy',.inr ⟨hwy,rfl⟩⟩,.inr ⟨eS hsx',.inl ⟨by rw [bB a3];exact hwx,?_⟩⟩⟩;cases hx:eL x with
    |true=>
     obtain ⟨k,hk,⟨cs,hcs,hv⟩|hv⟩:=qC (P:=P) (G:=G) hx
     ·have hf:=fx hx k hk;have g2:cF k (finish st y.dst (.cT []) .no)=true:=cA hf rfl;rw [hv] at ho;cases ho;refine ⟨_,hv _,?_⟩;simp only;rw [bM hf,bM g2,eK a2 (.inl rfl)];cases y.dst<;>rfl
     ·rw [hv] at ho;cases ho
    |false=>
     have hax:isApp x=true:=by simpa [hx] using hsx'
     obtain ⟨⟨e,hact⟩,_,eI,hst,hsub⟩:=vC hax ho;refine ⟨⟨out.v,out.act,finish out.st y.dst (.cT []) .no⟩,by rw [tS hax a3,ho];rfl,?_⟩;simp only;rw [hact,eK a2' (.inr ⟨e,rfl⟩)]
  ·
   rcases h2 with ⟨hq,_⟩|⟨_,⟨hw,out2,ho2,rfl⟩|⟨hw,rfl⟩⟩
   ·exact absurd hq (nq hsy')
   ·rw [bB a1] at hw;cases hy:eL y with
    |true=>
     obtain ⟨k2,hk2,⟨cs2,hcs2,hv2⟩|hv2⟩:=qC (P:=P) (G:=G) hy
     ·have hf2:=fy hy k2 hk2;have g1:cF k2 (finish st x.dst (.cT []) .no)=true:=cA hf2 rfl;rw [hv2] at ho2;cases ho2;refine ⟨_,.inr ⟨eS hsy',.inl ⟨hw,_,hv2 st,rfl⟩⟩,.inr ⟨eS hsx',.inr ⟨by simp only;rw [bB a3,bM hf2];exact hwx,?_⟩⟩⟩;simp only;rw [bM hf2,bM g1, ← eK a2 (.inl rfl)];congr 1;cases x.dst<;>rfl
     ·rw [hv2] at ho2;cases ho2
    |false=>
     have hay:isApp y=true:=by simpa [hy] using hsy'
     rw [tS hay a1] at ho2;obtain ⟨o0,ho0,rfl⟩:=d8C.1 ho2;obtain ⟨⟨e,hact⟩,_,eI,hst,hsub⟩:=vC hay ho0;refine ⟨_,.inr ⟨eS hsy',.inl ⟨hw,o0,ho0,rfl⟩⟩,.inr ⟨eS hsx',.inr ⟨by rw [bB a3,hst];exact hwx,?_⟩⟩⟩;simp only;rw [hact,eK a2 (.inr ⟨e,rfl⟩)]
   ·rw [bB a1] at hw;refine ⟨_,.inr ⟨eS hsy',.inr ⟨hw,rfl⟩⟩,.inr ⟨eS hsx',.inr ⟨by rw [bB a3];exact hwx,?_⟩⟩⟩;exact eK a2 (.inl rfl)
 ·
  obtain ⟨hqx,_,_⟩:=kP (G:=G) (st:=st) hpx;obtain ⟨hyd,_⟩:=a5d hsy;have hss:mS y=true:=by simp [mS,hsy]
  rcases h1 with ⟨_,d,ax,hx,rfl⟩|⟨hs,_⟩
  ·rw [noq hnx] at h2;rcases h2 with ⟨hq,_⟩|⟨_,⟨hw,out,ho,rfl⟩|⟨hw,rfl⟩⟩
   ·rw [(gM (G:=G) (st:=st) hss).2.2.1] at hq;cases hq
   ·rw [bB a1] at hw;rw [b2w hsy a1] at ho;obtain ⟨o0,ho0,rfl⟩:=d8C.1 ho;obtain ⟨_,_,htm⟩:=c4h hsy ho0;refine ⟨_,.inr ⟨hss,.inl ⟨hw,o0,ho0,rfl⟩⟩,.inl ⟨hqx,d,ax,?_,?_⟩⟩
    ·rw [hyd];exact hx.pure hpx htm
    ·rw [hyd,noq hnx];rfl
   ·rw [bB a1] at hw;refine ⟨_,.inr ⟨hss,.inr ⟨hw,rfl⟩⟩,.inl ⟨hqx,d,ax,?_,?_⟩⟩
    ·rw [hyd];exact hx
    ·rw [hyd,noq hnx];rfl
  ·rw [(gM (G:=G) (st:=st) hs).2.2.1] at hqx;cases hqx
 ·
  obtain ⟨hqy,_,_⟩:=kP (G:=G) (st:=st) hpy;obtain ⟨hxd,_⟩:=a5d hsx;have hss:mS x=true:=by simp [mS,hsx]
  rcases h2 with ⟨_,e,ay,hy,rfl⟩|⟨hs,_⟩
  ·rcases h1 with ⟨hq,_⟩|⟨_,⟨hw,out,ho,rfl⟩|⟨hw,rfl⟩⟩
   ·rw [(gM (G:=G) (st:=st) hss).2.2.1] at hq;cases hq
   ·obtain ⟨_,_,htm⟩:=c4h hsx ho;rw [hxd] at hy;have hy':QY P G ops y e ay st:=QY.pure (st:=out.st) hy hpy htm.symm;refine ⟨_,.inl ⟨hqy,e,ay,hy',rfl⟩,.inr ⟨hss,.inl ⟨by rw [bB a3];exact hw,⟨out.v,out.act,finish out.st y.dst e .no⟩,?_,?_⟩⟩⟩
    ·rw [noq hny,b2w hsx a3,ho];rfl
    ·rw [hxd,noq hny];rfl
   ·rw [hxd] at hy;refine ⟨_,.inl ⟨hqy,e,ay,hy,rfl⟩,.inr ⟨hss,.inr ⟨by rw [bB a3];exact hw,?_⟩⟩⟩;rw [hxd];rfl
  ·rw [(gM (G:=G) (st:=st) hs).2.2.1] at hqy;cases hqy
def oU (ops:Array Oper)(listed:Array Bool)(st:St):Prop:=∀(j:Nat) (oj:Oper) (d:Tmp),ops[j]? =some oj→eL oj=true→listed.getD j true=false→oj.dst=some d→cF d st=true
def mZ (ops:Array Oper):Prop:=∀(i j:Nat) (oi oj:Oper) (d:Tmp),ops[i]? =some oi→ops[j]? =some oj→eL oi=true→eL oj=true→oi.dst=some d→oj.dst=some d→i=j
theorem qO {listed:Array Bool}{i j:Nat}(h:(listed.setIfInBounds i true).getD j true=false):i≠j∧listed.getD j true=false:=by
 by_cases hij:i=j
 ·subst hij;exfalso;rw [d8F] at h;by_cases hl:i<listed.size
  ·simp [hl] at h
  ·rw [Array.getElem?_eq_none (by simpa using hl)] at h;cases h
 ·exact ⟨hij,by rwa [getD_set_ne true hij] at h⟩
theorem oU.step {ops:Array Oper}{listed:Array Bool}{s:St}{i:Nat}{oi:Oper}(hA:mZ ops)(hi:ops[i]? =some oi)(hI:oU ops listed st)(hk:∀k,cF k st=true→(eL oi=true→oi.dst≠some k)→cF k s=true):oU ops (listed.setIfInBounds i true) s:=by intro j oj d hj hn hun hd;obtain ⟨hij,hun'⟩:=qO hun;exact hk d (hI j oj d hj hn hun' hd) fun hni he=>hij (hA i j oi oj d hi hj hni hn he hd)
theorem b8R {ops:Array Oper}{Q:St→Prop}{i:Nat}{oi:Oper}(hA:mZ ops)(hi:ops[i]? =some oi)(hsi:(dA oi.op=true∧kB ops oi=false)∨mS oi=true):
  ∀(fuel:Nat) (listed:Array Bool) (st s:St),eR ops listed→
   (∀j oj,ops[j]? =some oj→j≠i→listed.getD j true=false→gL ops ops.size j i=false→oi.apart ops oj=true∧oS ops oi oj=true)→
   i∈Region.ready .any ops listed→oU ops listed st→Eff P G ops oi st s→
   a8Z P G ops Q fuel (listed.setIfInBounds i true) s→a8Z P G ops Q (fuel+1) listed st:=by
 intro fuel
 induction fuel with
 |zero=>
  intro listed st s _ _ hr _ hy H;refine ⟨fun h=>(by rw [h] at hr;cases hr),fun j hj=>?_⟩;by_cases hji:j=i
  ·subst hji;rw [hi];exact (dS hsi).2 ⟨s,hy,H⟩
  ·have:=ready_mono hj hji;rw [H.1] at this;cases this
 |succ fuel ih=>
  intro listed st s hcl hfree hr hI hy H;refine ⟨fun h=>(by rw [h] at hr;cases hr),fun j hj=>?_⟩;by_cases hji:j=i
  ·subst hji;rw [hi];exact (dS hsi).2 ⟨s,hy,H⟩
  ·have h1:=H.2 j (ready_mono hj hji);obtain ⟨hjun,oj,hoj,hall⟩:=mem_ready.1 hj;rw [hoj] at h1 ⊢;simp only at h1 ⊢;obtain ⟨hiun,oi',hoi',halli⟩:=mem_ready.1 hr;have hnot:gL ops ops.size j i=false:=dE hcl hiun _ _ fun o ho=>by rw [hoj] at ho;cases ho;exact hall
   obtain ⟨hap,hpo⟩:=hfree j oj hoj hji hjun hnot;have hsj:(dA oj.op=true∧kB ops oj=false)∨mS oj=true:=by
    by_cases hs:mS oj=true
    ·exact .inr hs
    ·refine .inl ⟨?_,?_⟩
     ·unfold oS at hpo;simp only [mS,d8P,d8D,Bool.not_eq_true'] at hpo hs;rcases hpo with ((((((h|h)|h)|h)|h)|h)|h)|h
      ·exact h.1.2
      ·exact absurd (.inl (.inl h.1.2)) hs
      ·exact h.1.1.2
      ·exact absurd (.inl (.inr h.2)) hs
      ·exact h.1.2
      ·exact absurd (.inl h.1.2) hs
      ·exact absurd (.inr h.2) hs
      ·exact (kP (G:=G) (st:=st) h.1.2).1
     ·cases hx:kB ops oj with
      |false=>rfl
      |true=>
       have hlt:i<ops.size:=(d8M.1 hi).1;rcases rT hx hoj hlt (fun e=>hji e.symm) with h'|h'
       ·have:=dE hcl hjun ops.size i fun o ho=>by rw [hoi'] at ho;cases ho;exact halli
        rw [h'] at this;cases this
       ·rw [hnot] at h';cases h'
   obtain ⟨s12,hu,hk⟩:=(dS hsj).1 h1;obtain ⟨s2,e1,e2⟩:=a5e hap hpo (fun hn d hd=>hI i oi d hi hn hiun hd) (fun hn d hd=>hI j oj d hoj hn hjun hd) hy hu;refine (dS hsj).2 ⟨s2,e1,?_⟩;refine ih (listed.setIfInBounds j true) s2 s12 (hcl.set hj) (fun k ok hk' hki hun hno=>?_) (ready_mono hr (Ne.symm hji)) (hI.step hA hoj fun k hf hn=>rM e1 hf hn) e2 ?_
   ·exact hfree k ok hk' hki (qO hun).2 hno
   ·rw [Array.setIfInBounds_comm _ _ hji];exact hk
theorem a9d {o:Oper}{k:Nat}{t:TypeId}{m kk v:Operand}(ho:o.op= .mapUpdate t m kk v)(hf:cF k st=true)(h:jO P G o st=some out):cF k out.st=true∧mentions k out.v=false:=by
 obtain ⟨h1,h2,h3⟩:=kC hf;simp only [jO,ho,wZ] at h;split at h
 ·rename_i key _ _ hm _ _;split at h
  ·obtain ⟨es,_,rfl⟩:=d8C.1 h;refine ⟨xG h1 (fun p hp=>?_) h3,rfl⟩;rcases a1R hp with rfl|hp
   ·exact ⟨fun e=>by have:=qN (G:=G) hf m;rw [hm] at this;simp only [mentions,beq_eq_false_iff_ne,ne_eq] at this;exact this e,rfl⟩
   ·exact h2 p hp
  ·cases h
 ·cases h
theorem b2y {all:Array Oper}{o:Oper}{K:St→Prop}(hne:eQ all≠[])(ht:c1U all o=true)(h:kO P G true all o K st):kO P G true all o (fun s=>K s∧∀k,cF k st=true→(eL o=true→o.dst≠some k)→cF k s=true) st:=by
 unfold c1U at ht;have hsq:pP true all o=true:=by
  cases hk:eQ all with
  |nil=>exact absurd hk hne
  |cons k r=>simp [pP,hk]
 by_cases hs:mS o=true
 ·obtain ⟨s,h1,h2⟩:=(dS (.inr hs)).1 h;exact (dS (.inr hs)).2 ⟨s,h1,h2,fun k hf hn=>rM h1 hf hn⟩
 ·unfold kO at h ⊢;split
  ·rename_i hw;rw [hw] at h;simp only at h;split
   ·rename_i f ds hc;rw [hc] at h;rcases h with ⟨r,own,h1,h3,h2⟩|⟨h0,s',h1,h2⟩
    ·exact .inl ⟨r,own,h1,fun _=>h3 (by trivial),h2,fun k hf _=>cA hf (wA (h3 (by trivial)))⟩
    ·rw [hsq] at h0;cases h0
   ·rename_i hc;rw [hc] at h;simp only at h;split
    ·rename_i f d8B hch;rw [hch] at h;simp only [yJ] at h ⊢;rw [hsq] at h ⊢;simp only [if_true] at h ⊢;obtain ⟨d,ks,h1,h2⟩:=h;exact ⟨d,ks,h1,h2,fun k hf _=>cA hf (wA h1.2.2.2.2)⟩
    ·rename_i hch;rw [hch] at h;simp only at h;split
     ·rename_i out ho;rw [ho] at h;refine ⟨h,fun k hf _=>?_⟩;have hkeep:cF k out.st=true∧mentions k out.v=false:=by
       simp only [mS,d8P] at ht hs;rcases ht with ((hq|ha)|hn)|hst
       ·rw [b5S hq ho];exact ⟨hf,b5Y hq hf ho⟩
       ·exact absurd (.inl (.inl ha)) hs
       ·exact absurd (.inl (.inr hn)) hs
       ·split at hst
        ·rename_i hop;exact a9c hop hf ho
        ·rename_i hop;exact a9d hop hf ho
        ·cases hst
      exact cA hkeep.1 hkeep.2
     ·rename_i ho;rw [ho] at h;exact h
  ·rename_i hw;rw [hw] at h;exact ⟨h,fun k hf _=>cA hf rfl⟩
  ·rename_i hw;rw [hw] at h;exact h
theorem b6a {ops:Array Oper}{Q:St→Prop}(hA:mZ ops)(hT:eQ ops=[]∨∀o∈ops.toList,c1U ops o=true):∀(l:List Oper) (k:Nat) (listed:Array Bool) (st:St),(∀j,l[j]? =ops[k+j]?)→eR ops listed→oU ops listed st→
  lexFrom ops l.length k listed=true→rF P G true ops l st Q→a8Z P G ops Q l.length listed st
 |[],_,_,_,_,_,_,hB,h=>⟨by simpa [lexFrom] using hB,h⟩
 |o::l,k,listed,st,hl,hcl,hI,hB,h=>by
  have h0:ops[k]? =some o:=by simpa using (hl 0).symm
  simp only [List.length_cons,lexFrom,d8D,h0] at hB;obtain ⟨⟨hr,hf⟩,hB'⟩:=hB;have hrk:k∈Region.ready .any ops listed:=by simpa using hr
  have hnext:∀s,oU ops (listed.setIfInBounds k true) s→rF P G true ops l s Q→a8Z P G ops Q l.length (listed.setIfInBounds k true) s:=fun s hs h=>b6a hA hT l (k+1) _ s (fun j=>by have:=hl (j+1);simpa [Nat.add_assoc,Nat.add_comm 1 j] using this) (hcl.set hrk) hs hB' h
  have hspec:∀j oj,ops[j]? =some oj→j≠k→listed.getD j true=false→gL ops ops.size j k=false→o.apart ops oj=true∧oS ops o oj=true:=by intro j oj hj hne hun hno;rw [d8G] at hf;have h1:=hf j (List.mem_range.2 (d8M.1 hj).1);simp only [hj,d8P,beq_iff_eq,hne,false_or,hun,Bool.false_eq_true,hno,d8D] at h1;exact h1
  have only:(∀j oj,ops[j]? =some oj→j≠k→listed.getD j true=false→gL ops ops.size j k=false→False)→a8Z P G ops Q (l.length+1) listed st:=fun hno=>by
   refine ⟨fun h'=>(by rw [h'] at hrk;cases hrk),fun j hj=>?_⟩;by_cases hjk:j=k
   ·subst hjk;rw [h0];have hkeep:kO P G true ops o (fun s=>rF P G true ops l s Q∧oU ops (listed.setIfInBounds j true) s) st:=by
     by_cases hT0:eQ ops=[]
     ·refine eZ (fun s hs=>⟨hs,fun i oi d hi hn _ hd=>?_⟩) h;have:d∈eQ ops:=List.mem_filterMap.2 ⟨oi,by rw [Array.mem_toList_iff];exact Array.mem_of_getElem? hi,by rw [if_pos hn];exact hd⟩;rw [hT0] at this;cases this
     ·have hT:=hT.resolve_left hT0;refine eZ (fun s hs=>⟨hs.1,hI.step hA h0 hs.2⟩) (b2y hT0 (hT o (by rw [Array.mem_toList_iff];exact Array.mem_of_getElem? h0)) h)
    exact eZ (fun s hs=>hnext s hs.2 hs.1) hkeep
   ·obtain ⟨hjun,oj,hoj,hall⟩:=mem_ready.1 hj;have hnot:gL ops ops.size j k=false:=dE hcl (mem_ready.1 hrk).1 _ _ fun o' ho'=>by rw [hoj] at ho';cases ho';exact hall
    exact (hno j oj hoj hjk hjun hnot).elim
  by_cases hs:(dA o.op=true∧kB ops o=false)∨mS o=true
  ·obtain ⟨s,hd,hk⟩:=(dS hs).1 h;exact b8R hA h0 hs l.length listed st s hcl (fun j oj hj hne hun hno=>hspec j oj hj hne hun hno) hrk hI hd (hnext _ (hI.step hA h0 fun k hf hn=>rM hd hf hn) hk)
  ·refine only fun j oj hj hne hun hno=>?_
   obtain ⟨_,hpo⟩:=hspec j oj hj hne hun hno;cases hal:kB ops o with
   |true=>
    obtain ⟨_,ok,hok,hallk⟩:=mem_ready.1 hrk;have hnot2:gL ops ops.size k j=false:=dE hcl hun _ _ fun o' ho'=>by rw [hok] at ho';cases ho';exact hallk
    rcases rT hal h0 (d8M.1 hj).1 hne with h'|h'
    ·rw [hno] at h';cases h'
    ·rw [hnot2] at h';cases h'
   |false=>
    unfold oS at hpo;simp only [mS,d8P,d8D,Bool.not_eq_true'] at hpo hs;rcases hpo with ((((((h'|h')|h')|h')|h')|h')|h')|h'
    ·exact hs (.inl ⟨h'.1.1,hal⟩)
    ·exact hs (.inl ⟨h'.1.1,hal⟩)
    ·exact hs (.inr (.inl (.inl h'.1.1.1)))
    ·exact hs (.inl ⟨h'.1,hal⟩)
    ·exact hs (.inr (.inl (.inr h'.1.1)))
    ·exact hs (.inr (.inl h'.1.1))
    ·exact hs (.inl ⟨(kP (G:=G) (st:=st) h'.1.1).1,hal⟩)
    ·exact hs (.inr (.inr h'.1.1))
theorem Rel.drew (hr:Rel P G base R μ st a w):Rel P G base R μ st a w.drew∧Step base R w R w.drew:=
 have hs:Step base R w R w.drew:=⟨(xC.refl _ _).drew,fun _ _ h=>h,fun _ _ h h'=>absurd h h',fun _ _ _=>rfl⟩
 ⟨hr.step hs (fun _ _=>rfl) (fun _ _ h h'=>absurd h h') hr.oP,hs⟩
theorem a9e {α β:Type}{f:α→Option β}:∀ {l:List α},(l.filterMap f).Nodup→∀(i j:Nat) {x y:α} {d:β},l[i]? =some x→l[j]? =some y→f x=some d→f y=some d→i=j
 |z::r,hn,i,j,x,y,d,hi,hj,hx,hy=>by
  have tl:(r.filterMap f).Nodup:=by
   rw [List.filterMap_cons] at hn;split at hn
   ·exact hn
   ·exact (List.nodup_cons.1 hn).2
  have no:∀ {k:Nat} {w:α},f z=some d→r[k]? =some w→f w=some d→False:=fun hz hk hw=>by rw [List.filterMap_cons,hz] at hn;exact (List.nodup_cons.1 hn).1 (List.mem_filterMap.2 ⟨_,d8I hk,hw⟩)
  cases i with
  |zero=>
   simp at hi;subst hi;cases j with
   |zero=>rfl
   |succ j=>exact (no hx (by simpa using hj) hy).elim
  |succ i=>
   cases j with
   |zero=>simp at hj;subst hj;exact (no hy (by simpa using hi) hx).elim
   |succ j=>rw [a9e tl i j (by simpa using hi) (by simpa using hj) hx hy]
theorem b1y {id:Nat}{ops:Array Oper}{Q:Exit→St→Prop}(hm:P.follows .mixedOrders=true)(hB:c4e ops=true)(hF:a6n ops st=true)(h:rF P G true ops ops.toList st fun s=>Q .normal s):SW P G (.region id ops true) st Q:=by
 intro base R μ a w hr;obtain ⟨hr',hs'⟩:=hr.drew;unfold c4e at hB;rw [d8D] at hB;obtain ⟨hN,hB⟩:=hB;rw [d8P,List.isEmpty_iff,d8D,d8G,decide_eq_true_eq] at hN;have mem:∀ {i oi d},ops[i]? =some oi→eL oi=true→oi.dst=some d→d∈eQ ops:=fun hi hn hd=>List.mem_filterMap.2 ⟨_,by rw [Array.mem_toList_iff];exact Array.mem_of_getElem? hi,by rw [if_pos hn];exact hd⟩
 have hA:mZ ops:=fun i j oi oj d hi hj hni hnj hdi hdj=>by
  rcases hN with hN|⟨_,hN⟩
  ·have:=mem hi hni hdi;rw [hN] at this;cases this
  ·exact a9e (l:=ops.toList) (f:=fun o=>if eL o then o.dst else none) hN i j (by simpa using hi) (by simpa using hj) (by rw [if_pos hni];exact hdi) (by rw [if_pos hnj];exact hdj)
 have hI:oU ops (Array.replicate ops.size false) st:=fun j oj d hj hn _ hd=>d8G.1 hF d (mem hj hn hd)
 have h1:=b6a hA (hN.imp (fun h=>h) (fun h=>h.1)) ops.toList 0 (Array.replicate ops.size false) st (by simp) (fun k hk=>by
  rcases Nat.lt_or_ge k ops.size with h'|h'
  ·simp [h'] at hk
  ·simp [Nat.not_lt.2 h'] at hk) hI (by simpa using hB) h
 rw [show ops.toList.length=ops.size by simp] at h1;exact wp_region_any hm (a8w ops.size _ st h1 base R μ a w.drew hr' fun s a' w' R' μ' q1 q2 q3=>⟨s,R',μ',q1,q2,hs'.trans q3⟩)
theorem a1m:∀(c:Code) (st:St) (Q:Exit→St→Prop),VW P G c st Q→SW P G c st Q
 | .skip,st,Q,h=>fun base R μ a w hr=>wp_skip ⟨st,R,μ,h,hr,.refl _ _ _⟩
 | .region id ops draw,st,Q,h=>by
  unfold VW at h;cases draw with
  |true=>exact b1y (h.1 rfl).1 (h.1 rfl).2.1 (h.1 rfl).2.2 h.2
  |false=>
   replace h:=h.2
   exact fun base R μ a w hr=>wp_region_list (b3Q ops _ ops.toList st _ h base R μ a w hr fun s a' w' R' μ' q1 q2 q3=>⟨s,R',μ',q1,q2,q3⟩)
 | .seq x y,st,Q,h=>fun base R μ a w hr=>wp_seq (wp_mono (a1m x st _ h base R μ a w hr) fun e a1 w1 ⟨s,R1,μ1,q1,q2,q3⟩=>by
   cases e with
   |normal=>exact wp_mono (a1m y s Q q1 base R1 μ1 a1 w1 q2) fun e2 a2 w2 ⟨s2,R2,μ2,p1,p2,p3⟩=>⟨s2,R2,μ2,p1,p2,q3.trans p3⟩
   |_=>exact ⟨s,R1,μ1,q1,q2,q3⟩)
 | .cond c x y,st,Q,h=>fun base R μ a w hr=>by
  unfold VW at h;split at h
  ·rename_i t hc;refine wp_cond (hr.zX hc) ?_
   cases t
   ·exact a1m y st Q h base R μ a w hr
   ·exact a1m x st Q h base R μ a w hr
  ·rename_i hc;obtain ⟨t,ht⟩:=hr.c0E hc;refine wp_cond ht ?_
   cases t
   ·exact a1m y st Q h.2 base R μ a w hr
   ·exact a1m x st Q h.1 base R μ a w hr
  ·cases h
 | .block id c,st,Q,h=>fun base R μ a w hr=>wp_block (wp_mono (a1m c st _ h base R μ a w hr) fun e a1 w1 ⟨s,R1,μ1,q1,q2,q3⟩=>by
   cases e with
   |exit id'=>
    simp only [Exit.inBlock];simp only at q1;by_cases hid:id'=id
    ·rw [if_pos hid] at q1 ⊢;exact ⟨s,R1,μ1,q1,q2,q3⟩
    ·rw [if_neg hid] at q1 ⊢;exact ⟨s,R1,μ1,q1,q2,q3⟩
   |_=>exact ⟨s,R1,μ1,q1,q2,q3⟩)
 | .loop c,st,Q,h=>h
 | .exit id,st,Q,h=>fun base R μ a w hr=>wp_exit ⟨st,R,μ,h,hr,.refl _ _ _⟩
 | .ret,st,Q,h=>fun base R μ a w hr=>wp_ret ⟨st,R,μ,h,hr,.refl _ _ _⟩
 | .rangeFunc ..,_,_,h=>by simp [VW] at h
 | .scope c,st,Q,h=>fun base R μ a w hr=>wp_scope_straight (wp_mono (a1m c st _ h base R μ a w hr) fun e a1 w1 ⟨s,R1,μ1,q1,q2,q3⟩=>by
   cases e with
   |goto l=>exact q1.elim
   |_=>exact ⟨s,R1,μ1,q1,q2,q3⟩)
 | .label l,st,Q,h=>fun base R μ a w hr=>wp_label ⟨st,R,μ,h,hr,.refl _ _ _⟩
 | .goto ..,_,_,h=>by simp [VW] at h
end
end Go.VM
end
section
namespace Go.VM
open Go Go.RowKit
def WkT:List DV→List DV→Prop
 |[],[]=>True
 |d::ds,d'::ds'=>(d'= .undef∨d'=d∨(d= .d .aN∧d'= .d (.sl [])))∧WkT ds ds'
 |_,_=>False
def WkO:aZ→aZ→Prop
 | .cells cs,.cells cs'=>WkT cs cs'
 |o,o'=>o'=o
def WkH (H:List (Nat×aZ)):List (Nat×aZ)→Prop
 |[]=>True
 |(k,o')::r=>(∃o,getKey k H=some o∧WkO o o')∧WkH H r
def isNil (s:St):Loc→Bool
 | .t i=>match s.tmps[i]? with
  |some (.d .aN)=>true
  |_=>false
 | .c k off=>match getKey k s.H with
  |some (.cells cs)=>(match cs[off]? with
   |some (.d .aN)=>true
   |_=>false)
  |some (.bld _ u _)=> !u&&off==1
  |_=>false
def wC (c:TypeId×List Loc):List (TypeId×List Loc)→Option (List (TypeId×List Loc))
 |[]=>none
 |c0::r=>if c0.1=c.1∧(c.2.all fun l=>c0.2.contains l)=true then some r else (wC c r).map (c0:: ·)
def a9f (s:St)(c:TypeId×List Loc):Bool:=
 match c.2 with
 |[]=>true
 |[l]=>isNil s l
 |_=>false
def a5f (s:St):List (TypeId×List Loc)→List (TypeId×List Loc)→Bool
 |_,[]=>true
 |own,c::r=>if a9f s c then a5f s own r else match wC c own with
  |some own1=>a5f s own1 r
  |none=>false
def bC (H:List (Nat×aZ))(own:List (TypeId×List Loc)):Bool:=own.all fun c=>c.2.all fun l=>match l with
 | .c k _=>(getKey k H).isSome
 |_=>true
structure wD (s s':St):Prop where
 tmps:WkT s.tmps s'.tmps
 H:WkH s.H s'.H
 own:a5f s s.own s'.own=true
 keys:bC s'.H s'.own=true
section
variable {P:Program} {G:GT} {st st':St}
variable {base:cZ} {R:Nat→Nat→Prop} {μ:Nat→Nat} {a:Act} {w:World}
theorem xH:∀ {l l':List DV},WkT l l'→l'.length=l.length∧∀(i:Nat) (d':DV),l'[i]? =some d'→∃d,l[i]? =some d∧(d'= .undef∨d'=d∨(d= .d .aN∧d'= .d (.sl [])))
 |[],[],_=>by simp
 |[],_::_,h=>by simp [WkT] at h
 |_::_,[],h=>by simp [WkT] at h
 |d::l,d'::l',h=>by
  obtain ⟨h1,h2⟩:=h;obtain ⟨q1,q2⟩:=xH h2;refine ⟨by simp [q1],fun i x hx=>?_⟩;cases i with
  |zero=>simp at hx;subst hx;exact ⟨d,rfl,h1⟩
  |succ i=>simp at hx;simpa using q2 i x hx
theorem b6b {H:List (Nat×aZ)}:∀ {H':List (Nat×aZ)},WkH H H'→∀(k:Nat) (o':aZ),getKey k H'=some o'→∃o,getKey k H=some o∧WkO o o'
 |[],_,k,o',h=>by simp [getKey] at h
 |(k1,o1)::r,hw,k,o',h=>by
  obtain ⟨⟨o,h1,h2⟩,h3⟩:=hw;unfold getKey at h;split at h
  ·rename_i he;simp at h;subst he h;exact ⟨o,h1,h2⟩
  ·exact b6b h3 k o' h
theorem a8x {b:Nat}{o o':aZ}(h:WkO o o')(hr:gQ R μ w b o):gQ R μ w b o':=by
 cases o with
 |cells cs=>
  cases o' with
  |cells cs'=>
   obtain ⟨q1,q2⟩:=xH h;obtain ⟨vs,T,h1,h2,h3,h4⟩:=hr;refine ⟨vs,T,h1,by rw [h2,q1],fun i d' hd'=>?_,fun T' hm=>?_⟩
   ·obtain ⟨d,hd,hc⟩:=q2 i d' hd';obtain ⟨p1,p2⟩:=h3 i d hd;rcases hc with rfl|rfl|⟨rfl,rfl⟩
    ·exact ⟨rfl,.undef _⟩
    ·exact ⟨p1,p2⟩
    ·obtain ⟨ao,he⟩:=p2.a4U.jI;rw [he];exact ⟨rfl,.d _ _ (.emp _ _)⟩
   ·obtain ⟨i,hi⟩:=d8U hm;obtain ⟨d,hd,hc⟩:=q2 i _ hi;rcases hc with hc|rfl|⟨_,hc⟩
    ·cases hc
    ·exact h4 T' (d8I hd)
    ·cases hc
  |map es=>cases h
  |iter s p=>cases h
  |bld T u es=>cases h
 |map es=>cases o'<;>cases h;exact hr
 |iter s p=>cases o'<;>cases h;exact hr
 |bld T u es=>cases o'<;>cases h;exact hr
theorem a0B {c:TypeId×List Loc}:∀ {own own1:List (TypeId×List Loc)},wC c own=some own1→∃pre c0 post,own=pre++c0::post∧own1=pre++post∧c0.1=c.1∧∀l∈c.2,l∈c0.2
 |[],own1,h=>by simp [wC] at h
 |c0::r,own1,h=>by
  simp only [wC] at h;split at h
  ·rename_i hc;simp at h;exact ⟨[],c0,r,rfl,h.symm,hc.1,fun l hl=>by have:=d8G.1 hc.2 l hl;simpa using this⟩
  ·simp only [d8C] at h;obtain ⟨r',hr,rfl⟩:=h;obtain ⟨pre,c',post,h1,h2,h3,h4⟩:=a0B hr;exact ⟨c0::pre,c',post,by simp [h1],by simp [h2],h3,h4⟩
structure b8S (P:Program) (base:cZ) (R:Nat→Nat→Prop) (μ:Nat→Nat) (st:St) (a:Act) (w:World) (own:List (TypeId×List Loc)) (vs:List Value):Prop where
 len:vs.length=own.length
 one:∀(i:Nat) (c:TypeId×List Loc) (v:Value),own[i]? =some c→vs[i]? =some v→a0u P base R μ st a w c v
 apart:vs.Pairwise a1f
theorem a1f.symm {v v':Value}(h:a1f v v'):a1f v' v:=fun g hg hg'=>h g hg' hg
theorem b8S.take {own own1:List (TypeId×List Loc)}{vs:List Value}{c:TypeId×List Loc}(h:b8S P base R μ st a w own vs)(ht:wC c own=some own1):
  ∃v vs1,a0u P base R μ st a w c v∧b8S P base R μ st a w own1 vs1∧(∀x∈vs1,x∈vs)∧v∈vs∧∀x∈vs1,a1f v x:=by
 obtain ⟨pre,c0,post,rfl,rfl,h3,h4⟩:=a0B ht;have hpl:pre.length<vs.length:=by rw [h.len];simp
 have hsplit:vs=vs.take pre.length++vs[pre.length]::vs.drop (pre.length+1):=by rw [← d8Q hpl,List.take_append_drop]
 have hc:=h.one pre.length c0 vs[pre.length] (by simp) (d8H hpl);have hap:=h.apart;rw [hsplit,List.pairwise_append,List.pairwise_cons] at hap;refine ⟨vs[pre.length],vs.take pre.length++vs.drop (pre.length+1),⟨fun l hl=>hc.dV l (h4 l hl),by rw [← h3];exact hc.own,hc.keys⟩,⟨?_,fun i c' v hc' hv=>?_,?_⟩,fun x hx=>?_,List.getElem_mem hpl,fun x hx=>?_⟩
 ·have:=h.len;simp at this ⊢;omega
 ·by_cases hi:i<pre.length
  ·refine h.one i c' v ?_ ?_
   ·rw [d8O hi];simpa [d8O hi] using hc'
   ·rw [d8O (by simp;omega),List.getElem?_take] at hv;rw [if_pos hi] at hv;exact hv
  ·refine h.one (i+1) c' v ?_ ?_
   ·rw [d8L (by omega),show i+1-pre.length=(i-pre.length)+1 by omega,List.getElem?_cons_succ];simpa [d8L (Nat.le_of_not_lt hi)] using hc'
   ·have hmin:min pre.length vs.length=pre.length:=by omega
    rw [d8L (by simp;omega),d8W] at hv;simp only [List.length_take,hmin] at hv
    rwa [show pre.length+1+(i-pre.length)=i+1 by omega] at hv
 ·rw [List.pairwise_append];exact ⟨hap.1,hap.2.1.2,fun x hx y hy=>hap.2.2 x hx y (.tail _ hy)⟩
 ·simp only [List.mem_append] at hx;rcases hx with hx|hx
  ·exact List.mem_of_mem_take hx
  ·exact List.mem_of_mem_drop hx
 ·simp only [List.mem_append] at hx;rcases hx with hx|hx
  ·exact (hap.2.2 x hx vs[pre.length] (.head _)).symm
  ·exact hap.2.1.1 x hx
theorem b2z (hr:Rel P G base R μ st a w){l:Loc}(h:isNil st l=true){u:Value}(hu:cE a w μ l=some u):∃ao,u= .slice ao 0 0:=by
 cases l with
 |t i=>
  simp only [isNil] at h;split at h
  ·rename_i hd;exact (hr.tmps i u _ hu hd).a4U.jI
  ·cases h
 |c k off=>
  simp only [isNil] at h;split at h
  ·rename_i cs hk;split at h
   ·rename_i hd;obtain ⟨_,_,hob⟩:=hr.gT k _ hk;obtain ⟨_,v,h1,h2⟩:=a6j.a1I hob off (.d .aN) hd;simp only [cE] at hu;rw [Nat.zero_add,hu] at h1;cases h1;exact h2.a4U.jI
   ·cases h
  ·rename_i T u es hk;simp only [d8D,Bool.not_eq_true',beq_iff_eq] at h;obtain ⟨rfl,rfl⟩:=h;obtain ⟨_,_,v0,v1,T',q1,q2,_⟩:=hr.gT k _ hk;simp only [cE] at hu;rw [cell_of_row w _ _ _ T' (0,0) q1] at hu;have:=(q2 rfl).2;subst this;simp at hu;exact ⟨none,hu.symm⟩
  ·cases h
theorem a1T (hr:Rel P G base R μ st a w):∀(eI own:List (TypeId×List Loc)) (vs:List Value),b8S P base R μ st a w own vs→a5f st own eI=true→
  ∃vs',b8S P base R μ st a w eI vs'∧∀v∈vs',bG v=none∨v∈vs
 |[],own,vs,_,_=>⟨[],⟨rfl,by simp,.nil⟩,by simp⟩
 |c::r,own,vs,h,hw=>by
  unfold a5f at hw;split at hw
  ·rename_i hn;obtain ⟨vs',h1,h2⟩:=a1T hr r own vs h hw;have hex:∃v,a0u P base R μ st a w c v∧bG v=none:=by
    by_cases hx:∃l∈c.2,∃u,cE a w μ l=some u
    ·obtain ⟨l,hl,u,hu⟩:=hx;unfold a9f at hn;split at hn
     ·rename_i he;rw [he] at hl;cases hl
     ·rename_i l' he;rw [he] at hl;simp at hl;subst hl;obtain ⟨ao,rfl⟩:=b2z hr hn hu;have hs:bG (.slice ao 0 0)=none:=by cases ao<;>rfl
      exact ⟨.slice ao 0 0,⟨fun l2 hl2 u2 hu2=>by rw [he] at hl2;simp at hl2;subst hl2;rw [hu] at hu2;exact (Option.some.inj hu2).symm,.inl ⟨ao,rfl⟩,fun k o _=>by rw [hs];simp⟩,hs⟩
     ·cases hn
    ·exact ⟨.slice none 0 0,⟨fun l hl u hu=>absurd ⟨l,hl,u,hu⟩ hx,.inl ⟨none,rfl⟩,fun k o _=>by simp [bG]⟩,rfl⟩
   obtain ⟨v,hv1,hv2⟩:=hex;refine ⟨v::vs',⟨by simp [h1.len],fun i c' u hc hu=>?_,List.pairwise_cons.2 ⟨fun x _ g hg=>(by rw [hv2] at hg;cases hg),h1.apart⟩⟩,fun x hx=>?_⟩
   ·cases i with
    |zero=>simp at hc hu;subst hc hu;exact hv1
    |succ i=>simp at hc hu;exact h1.one i c' u hc hu
   ·simp at hx;rcases hx with rfl|hx
    ·exact .inl hv2
    ·exact h2 x hx
  ·split at hw
   ·rename_i own1 ht;obtain ⟨v,vs1,q1,q2,q3,q4,q5⟩:=h.take ht;obtain ⟨vs',h1,h2⟩:=a1T hr r own1 vs1 q2 hw;refine ⟨v::vs',⟨by simp [h1.len],fun i c' u hc hu=>?_,List.pairwise_cons.2 ⟨fun x hx=>?_,h1.apart⟩⟩,fun x hx=>?_⟩
    ·cases i with
     |zero=>simp at hc hu;subst hc hu;exact q1
     |succ i=>simp at hc hu;exact h1.one i c' u hc hu
    ·rcases h2 x hx with hs|hx'
     ·exact fun g _ hg'=>by rw [hs] at hg';cases hg'
     ·exact q5 x hx'
    ·simp at hx;rcases hx with rfl|hx
     ·exact .inr q4
     ·rcases h2 x hx with hs|hx'
      ·exact .inl hs
      ·exact .inr (q3 x hx')
   ·cases hw
theorem Rel.zI (hr:Rel P G base R μ st a w)(h:wD st st'):Rel P G base R μ st' a w:=by
 obtain ⟨h1,h2⟩:=xH h.tmps;have h3:=b6b h.H;refine ⟨hr.defers,by rw [hr.size,h1],fun i v d' hv hd'=>?_,fun k o' hk=>?_,fun k k' o o' hk hk' he=>?_,fun c hc k off hl=>?_,?_,hr.sN,hr.oP,hr.base,hr.pass⟩
 ·obtain ⟨d,hd,hc⟩:=h2 i d' hd';have:=hr.tmps i v d hv hd;rcases hc with rfl|rfl|⟨rfl,rfl⟩
  ·exact .undef _
  ·exact this
  ·obtain ⟨ao,rfl⟩:=this.a4U.jI;exact .d _ _ (.emp _ _)
 ·obtain ⟨o,ho,hw⟩:=h3 k o' hk;obtain ⟨q1,q2,q3⟩:=hr.gT k o ho;exact ⟨q1,q2,a8x hw q3⟩
 ·obtain ⟨o1,ho1,_⟩:=h3 k o hk;obtain ⟨o2,ho2,_⟩:=h3 k' o' hk';exact hr.inj k k' o1 o2 ho1 ho2 he
 ·have:=d8G.1 h.keys c hc;have:=d8G.1 this _ hl;exact Option.isSome_iff_exists.1 this
 ·obtain ⟨vs,hvs⟩:=hr.own;obtain ⟨vs',hv',_⟩:=a1T hr st'.own st.own vs ⟨hvs.len,hvs.one,hvs.apart⟩ h.own;refine ⟨vs',hv'.len,fun i c v hc hv=>?_,hv'.apart⟩;have ho:=hv'.one i c v hc hv;exact ⟨ho.dV,ho.own,fun k o hk=>by obtain ⟨o1,ho1,_⟩:=h3 k o hk;exact ho.keys k o1 ho1⟩
theorem SW.zI {c:Code}{Q:Exit→St→Prop}(h:wD st st')(hw:SW P G c st' Q):SW P G c st Q:=fun base R μ a w hr=>hw base R μ a w (hr.zI h)
theorem SW.loop {ι:Type}{c:Code}{Q:Exit→St→Prop}(I:ι→St)(m:ι→Nat)(x0:ι)(h0:wD st (I x0))(round:∀x,VW P G c (I x) fun e s=>match e with
   | .normal=>∃y,wD s (I y)∧m y<m x
   |e=>Q e s):SW P G (.loop c) st Q:=by
 intro base R μ a w hr;refine wp_loop_ghost (fun n a1 w1=>∃x R1 μ1,m x=n∧Rel P G base R1 μ1 (I x) a1 w1∧Step base R w R1 w1) (m x0) ⟨x0,R,μ,rfl,hr.zI h0,.refl _ _ _⟩ ?_
 rintro n a1 w1 ⟨x,R1,μ1,rfl,hr1,hs1⟩;refine wp_mono (a1m c (I x) _ (round x) base R1 μ1 a1 w1 hr1) fun e a2 w2 ⟨s,R2,μ2,q,hr2,hs2⟩=>?_
 cases e with
 |normal=>obtain ⟨y,hy,hlt⟩:=q;exact ⟨m y,hlt,y,R2,μ2,rfl,hr2.zI hy,hs1.trans hs2⟩
 |_=>exact ⟨s,R2,μ2,q,hr2,hs1.trans hs2⟩
inductive WkD:D→D→Prop
 |refl (d:D):WkD d d
 |aN:WkD .aN (.sl [])
 |agg (cs cs':List D):cs.length=cs'.length→(∀(i:Nat) (d d':D),cs[i]? =some d→cs'[i]? =some d'→WkD d d')→WkD (.agg cs) (.agg cs')
 |sl (es es':List (List D)):es.length=es'.length→(∀(i:Nat) (e e':List D),es[i]? =some e→es'[i]? =some e'→e.length=e'.length)→
   (∀(i j:Nat) (e e':List D) (d d':D),es[i]? =some e→es'[i]? =some e'→e[j]? =some d→e'[j]? =some d'→WkD d d')→WkD (.sl es) (.sl es')
def WkL (l l':List D):Prop:=l.length=l'.length∧∀(i:Nat) (d d':D),l[i]? =some d→l'[i]? =some d'→WkD d d'
def c8v (l l':List (List D)):Prop:=l.length=l'.length∧∀(i:Nat) (d d':List D),l[i]? =some d→l'[i]? =some d'→WkL d d'
theorem c4j (a b:D)(l l':List D):WkL (a::l) (b::l')=(WkD a b∧WkL l l'):=by
 apply propext;constructor
 ·rintro ⟨h1,h2⟩;exact ⟨h2 0 a b rfl rfl,by simpa using h1,fun i d d' q q'=>h2 (i+1) d d' q q'⟩
 ·rintro ⟨h0,h1,h2⟩;refine ⟨by simp [h1],fun i d d' q q'=>?_⟩;cases i with
  |zero=>simp at q q';subst q q';exact h0
  |succ i=>exact h2 i d d' q q'
theorem a9h (l:List D):WkL l l=True:=by simp only [WkL,eq_iff_iff,iff_true];exact ⟨trivial,fun i d d' h h'=>by rw [h] at h';cases h';exact .refl _⟩
theorem b2A (l:List (List D)):c8v l l=True:=by simp only [c8v,eq_iff_iff,iff_true];exact ⟨trivial,fun i d d' h h'=>by rw [h] at h';cases h';rw [a9h];trivial⟩
theorem c4k (d:D):WkD d d=True:=by simp [WkD.refl]
theorem c4l:WkD .aN (.sl [])=True:=by simp [WkD.aN]
theorem c8w (cs cs':List D):WkD (.agg cs) (.agg cs')=WkL cs cs':=by
 apply propext;constructor
 ·intro h;cases h with
  |refl=>rw [a9h];trivial
  |agg _ _ h1 h2=>exact ⟨h1,h2⟩
 ·rintro ⟨h1,h2⟩;exact .agg _ _ h1 h2
theorem d2X (cs cs':List (List D)):WkD (.sl cs) (.sl cs')=c8v cs cs':=by
 apply propext;constructor
 ·intro h;cases h with
  |refl=>rw [b2A];trivial
  |sl _ _ h1 h2 h3=>exact ⟨h1,fun i e e' q q'=>⟨h2 i e e' q q',fun j d d' p p'=>h3 i j e e' d d' q q' p p'⟩⟩
 ·rintro ⟨h1,h2⟩;exact .sl _ _ h1 (fun i e e' q q'=>(h2 i e e' q q').1) (fun i j e e' d d' q q' p p'=>(h2 i e e' q q').2 j d d' p p')
theorem c8x (k k':IntKind)(n n':Int):WkD (.int k n) (.int k' n')=(k=k'∧n=n'):=by
 apply propext;constructor
 ·intro h;cases h;exact ⟨rfl,rfl⟩
 ·rintro ⟨rfl,rfl⟩;exact .refl _
theorem c4m (a b:Bool):WkD (.bool a) (.bool b)=(a=b):=by
 apply propext;constructor
 ·intro h;cases h;rfl
 ·rintro rfl;exact .refl _
theorem WkD.one {d d':D}(h:WkD d d'):d'.one=d.one:=by cases h<;>rfl
theorem V.wk {R:Nat→Nat→Prop}{w:World}{v:Value}{d:D}(h:V R w v d):∀ {d':D},WkD d d'→V R w v d':=by
 induction h with
 |int k n=>intro d' hd;cases hd;exact .int k n
 |bool b=>intro d' hd;cases hd;exact .bool b
 |str s=>intro d' hd;cases hd;exact .str s
 |aN ao=>
  intro d' hd;cases hd with
  |refl=>exact .aN ao
  |aN=>exact .emp ao 0
 |emp ao cap=>
  intro d' hd;cases hd with
  |refl=>exact .emp ao cap
  |sl _ es' h1 _ _=>have:es'=[]:=List.eq_nil_of_length_eq_zero (by simpa using h1.symm);subst this;exact .emp ao cap
 |sl b o n cap size es f h1 h2 h3 h4 h5 h6 h7 ih=>
  intro d' hd;cases hd with
  |refl=>exact .sl b o n cap size es f h1 h2 h3 h4 h5 h6 h7
  |sl _ es' q1 q2 q3=>
   have pre:∀(i:Nat) (e':List D),es'[i]? =some e'→∃e,es[i]? =some e:=fun i e' he'=>by have hi:i<es'.length:=(d8E.1 he').1;exact ⟨es[i]'(by omega),d8H (by omega)⟩
   have pre2:∀(i j:Nat) (e':List D) (d':D),es'[i]? =some e'→e'[j]? =some d'→∃e d,es[i]? =some e∧e[j]? =some d∧WkD d d':=fun i j e' d' he' hd'=>by
    obtain ⟨e,he⟩:=pre i e' he';have hl:=q2 i e e' he he';have hj:j<e'.length:=(d8E.1 hd').1;have hjd:e[j]? =some (e[j]'(by omega)):=d8H (by omega)
    exact ⟨e,_,he,hjd,q3 i j e e' _ d' he he' hjd hd'⟩
   refine .sl b o n cap size es' f (by omega) h2 h3 (fun e' he'=>?_) h5 (fun i j e' d' he' hd'=>?_) (fun i j e' d' he' hd'=>?_)
   ·obtain ⟨i,hi⟩:=d8U he';obtain ⟨e,he⟩:=pre i e' hi;rw [← q2 i e e' he hi];exact h4 e (d8I he)
   ·obtain ⟨e,d,he,hd,hw⟩:=pre2 i j e' d' he' hd';rw [hw.one];exact h6 i j e d he hd
   ·obtain ⟨e,d,he,hd,hw⟩:=pre2 i j e' d' he' hd';exact ih i j e d he hd hw
 |agg cs ds h1 h2 h3 ih=>
  intro d' hd;cases hd with
  |refl=>exact .agg cs ds h1 h2 h3
  |agg _ ds' q1 q2=>
   have pre:∀(i:Nat) (d':D),ds'[i]? =some d'→∃d,ds[i]? =some d∧WkD d d':=fun i d' he'=>by have hi:i<ds'.length:=(d8E.1 he').1;have h:=d8H (l:=ds) (i:=i) (by omega);exact ⟨_,h,q2 i _ d' h he'⟩
   refine .agg cs ds' (by omega) (fun i d' hd'=>?_) (fun i d' hd'=>?_)
   ·obtain ⟨d,hd,hw⟩:=pre i d' hd';rw [hw.one];exact h2 i d hd
   ·obtain ⟨d,hd,hw⟩:=pre i d' hd';exact ih i d hd hw
def a6o:DV→DV→Prop
 | .d x,.d y=>WkD x y
 | .cT l,.cT l'=>WkL l l'
 |a,b=>a=b
theorem TV.wk {R:Nat→Nat→Prop}{μ:Nat→Nat}{w:World}{v:Value}{r r':DV}(h:TV R μ w v r)(hw:a6o r r'):TV R μ w v r':=by
 cases r<;>cases r'<;>simp only [a6o] at hw<;>try (cases hw;done)
 case d.d x y=>cases h with|d _ _ hv=>exact .d _ _ (hv.wk hw)
 case cT.cT l l'=>
  cases h with
  |cT vs _ h1 h2=>
   refine .cT vs l' (by rw [h1,hw.1]) fun i d' hd'=>?_
   have hi:i<l'.length:=(d8E.1 hd').1;have hg:=d8H (l:=l) (i:=i) (by rw [hw.1];exact hi);exact (h2 i _ hg).wk (hw.2 i _ d' hg hd')
 all_goals (cases hw;exact h)
theorem CS.args {f:FuncId}{ds ds':List D}{r:DV}{own:Option TypeId}(h:CS P G f ds' r own)(hd:WkL ds ds'):CS P G f ds r own:=fun w R args hg hR hl hv=>h w R args hg hR (by rw [hl,hd.1]) fun i d' hd'=>by have hi:i<ds'.length:=(d8E.1 hd').1;have hgt:=d8H (l:=ds) (i:=i) (by rw [hd.1];exact hi);exact (hv i _ hgt).wk (hd.2 i _ d' hgt hd')
theorem CS.res {f:FuncId}{ds:List D}{r r':DV}{own:Option TypeId}(h:CS P G f ds r' own)(hd:a6o r' r):CS P G f ds r own:=fun w R args hg hR hl hv=>(h w R args hg hR hl hv).mono fun _ _ ⟨v,R',h1,h2,h3⟩=>⟨v,R',h1,fun μ=>(h2 μ).wk hd,h3⟩
def xI (ds:List D)(n:Nat):St:=⟨ds.map .d++List.replicate (n-ds.length) (.cT []),[],[]⟩
def c4n (P:Program)(s:St):ResultVar→Option D
 | .tmp i=>isD (s.tmps.getD i (.cT []))
 | .cell p ty=>match s.tmps.getD p (.cT []) with
  | .ptr k off=>(match getKey k s.H with
   |some (.cells cs)=>(a7c P ty (cs.drop off)).bind isD
   |_=>none)
  |_=>none
def a1U (P:Program)(s:St):List ResultVar→Option (List D)
 |[]=>some []
 |r::l=>match c4n P s r,a1U P s l with
  |some x,some ds=>some (x::ds)
  |_,_=>none
def c1Z (P:Program)(s:St)(rs:List ResultVar):Option DV:=
 match a1U P s rs with
 |some [x]=>some (.d x)
 |some ds=>some (.cT ds)
 |none=>none
def c8y (s:St)(rs:List ResultVar):Option TypeId:=
 match rs with
 |[.tmp i]=>(match s.tmps.getD i (.cT []) with
  | .d (.sl _)=>(gH (.t i) s.own).map (·.1)
  |_=>none)
 |_=>none
def a6p (tmps:Array Value):ResultVar→Sem Value
 | .tmp t=>pure (tmps.getD t undef)
 | .cell p t=>do loadVar t (← asAddr (tmps.getD p undef))
theorem a4n (fn:Func)(tmps:Array Value):results fn tmps=(do let vs ← fn.results.mapM (a6p tmps);pure (if h:vs.size=1 then vs[0] else .tuple vs)):=by unfold results;congr 1
theorem c8z (hr:Rel P G base R μ st a w){r:ResultVar}{x:D}(h:c4n P st r=some x):∃v,(a6p a.tmps r).run P w= .ok v w∧V R w v x:=by
 cases r with
 |tmp i=>simp only [c4n] at h;have he:=hr.eval (.tmp i);simp only [St.eval,Act.eval] at he;unfold isD at h;split at h<;>simp at h;rename_i y hy;subst h;rw [hy] at he;exact ⟨_,rfl,he.a4U⟩
 |cell p ty=>
  simp only [c4n] at h;have he:=hr.eval (.tmp p);simp only [St.eval,Act.eval] at he;split at h
  ·rename_i k off hp;split at h
   ·rename_i cs hk;rw [hp] at he;obtain ⟨_,_,hob⟩:=hr.gT k _ hk;have hrun:=(a6j.a1I hob).drop off;rw [Nat.zero_add] at hrun;obtain ⟨y,hy,hx⟩:=d8R.1 h;obtain ⟨v,h1,h2,_⟩:=tR (P:=P) hrun hy;have hyd:y= .d x:=by
     unfold isD at hx;split at hx
     ·cases hx;rfl
     ·cases hx
    subst hyd;refine ⟨v,?_,h2.a4U⟩;unfold a6p;simp only;rw [he.b3L];simp only [asAddr,Sem.run_bind,Sem.run_pure,Result.andThen_ok,h1]
   ·cases h
  ·cases h
theorem a9i (hr:Rel P G base R μ st a w):∀ {l:List ResultVar} {ds:List D},a1U P st l=some ds→
  ∃vs,(l.mapM (a6p a.tmps)).run P w= .ok vs w∧vs.length=ds.length∧∀(i:Nat) (d:D),ds[i]? =some d→V R w (vs.getD i undef) d
 |[],ds,h=>by simp [a1U] at h;subst h;exact ⟨[],by simp,rfl,by simp⟩
 |r::l,ds,h=>by
  simp only [a1U] at h;split at h<;>simp at h;rename_i x ds' hx hds;subst h;obtain ⟨v,h1,h2⟩:=c8z hr hx;obtain ⟨vs,q1,q2,q3⟩:=a9i hr hds;refine ⟨v::vs,?_,by simp [q2],fun i d hi=>?_⟩
  ·simp only [List.mapM_cons,Sem.run_bind,h1,Result.andThen_ok,q1,Sem.run_pure]
  ·cases i with
   |zero=>simp at hi;subst hi;exact h2
   |succ i=>simp at hi;simpa using q3 i d hi
theorem c0J (hr:Rel P G base R μ st a w){fn:Func}{r:DV}(h:c1Z P st fn.results.toList=some r):∃v,(results fn a.tmps).run P w= .ok v w∧(∀μ',TV R μ' w v r):=by
 unfold c1Z at h;cases hds:a1U P st fn.results.toList with
 |none=>simp [hds] at h
 |some ds=>
  obtain ⟨vs,h1,h2,h3⟩:=a9i hr hds;have hrun:(results fn a.tmps).run P w= .ok (if h:vs.toArray.size=1 then vs.toArray[0] else .tuple vs.toArray) w:=by rw [a4n,Array.mapM_eq_mapM_toList];simp only [Sem.run_bind,Sem.run_map,h1,Result.andThen_ok,Sem.run_pure]
  refine ⟨_,hrun,fun μ'=>?_⟩;have cT:∀(ds:List D),vs.length=ds.length→(∀(i:Nat) (d:D),ds[i]? =some d→V R w (vs.getD i undef) d)→TV R μ' w (.tuple vs.toArray) (.cT ds):=fun ds hl hv=> .cT _ _ (by simpa using hl) (fun i d hi=>by have:=hv i d hi;simpa [d8F,List.getD] using this)
  rw [hds] at h
  match ds,h2,h3,h with
  |[],h2,h3,h=>simp at h;subst h;rw [dif_neg (by simp at h2;simp [h2])];exact cT [] h2 h3
  |[x],h2,h3,h=>
   simp at h;subst h
   match vs,h2,h3 with
   |[v],_,h3=>exact .d _ _ (by simpa using h3 0 x rfl)
  |x::y::l,h2,h3,h=>simp at h;subst h;rw [dif_neg (by simp at h2;simp [h2])];exact cT _ h2 h3
theorem c8A (hr:Rel P G base R μ st a w){fn:Func}{e:TypeId}(h:c8y st fn.results.toList=some e){v:Value}(hv:(results fn a.tmps).run P w= .ok v w):mX P base R w e v:=by
 unfold c8y at h;split at h
 ·rename_i i hrs;split at h
  ·rename_i es hd;simp only [d8C] at h;obtain ⟨⟨e',eI⟩,ht,rfl⟩:=h;obtain ⟨_,v0,_,hv0,jW,_⟩:=hr.gH ht;have hs:i<a.tmps.size:=by
    rw [hr.size];by_cases hlt:i<st.tmps.length
    ·exact hlt
    ·simp [List.getD,List.getElem?_eq_none (Nat.le_of_not_lt hlt)] at hd
   have hv1:v=a.tmps.getD i undef:=by
    have hrs':fn.results= #[.tmp i]:=by apply Array.ext';simpa using hrs
    rw [results_tmp hrs' a.tmps P w] at hv;exact (by cases hv;rfl)
   rw [hv1,hv0 (a.tmps.getD i undef) (by simp [cE,hs])];exact jW
  ·cases h
 ·cases h
def b6c (x:Option DV)(r:DV):Prop:=match x with
 |some r0=>a6o r0 r
 |none=>False
theorem a9j {x:Option DV}{r:DV}(h:b6c x r):∃r0,x=some r0∧a6o r0 r:=by
 cases x with
 |none=>cases h
 |some r0=>exact ⟨r0,rfl,h⟩
def b6d (s:St)(rs:List ResultVar):Option TypeId→Prop
 |none=>True
 |some e=>c8y s rs=some e∨(match rs with
  |[.tmp i]=>(match s.tmps.getD i (.cT []) with
   | .d .aN=>True
   |_=>False)
  |_=>False)
theorem b6e (hr:Rel P G base R μ st a w){fn:Func}{e:TypeId}(h:b6d st fn.results.toList (some e)){v:Value}(hv:(results fn a.tmps).run P w= .ok v w):mX P base R w e v:=by
 rcases h with h|h
 ·exact c8A hr h hv
 ·split at h
  ·rename_i i hrs;split at h
   ·rename_i hd;have hrs':fn.results= #[.tmp i]:=by apply Array.ext';simpa using hrs
    rw [results_tmp hrs' a.tmps P w] at hv;cases hv;have he:=hr.eval (.tmp i);simp only [St.eval,Act.eval,hd] at he;obtain ⟨ao,h0⟩:=he.a4U.jI;exact .inl ⟨ao,h0⟩
   ·cases h
  ·cases h
theorem Rel.init (fn:Func){ds:List D}{w:World}{R:Nat→Nat→Prop}{args:Array Value}(hg:a3q G (vL w.heap.size) R w)(hR:∀b o,R b o→b<w.heap.size)(hl:args.size=ds.length)(hv:∀(i:Nat) (d:D),ds[i]? =some d→V R w (args.getD i undef) d):
  Rel P G (vL w.heap.size) R (fun _=>0) (xI ds fn.ntmps) { tmps:=args++Array.replicate (fn.ntmps-args.size) undef,defers:=[] } w:=by
 refine ⟨rfl,by simp [xI,hl],fun i v d hiv hid=>?_,fun k o hk=>by simp [xI,getKey] at hk,fun k k' o o' hk=>by simp [xI,getKey] at hk,fun c hc=>by simp [xI] at hc,⟨[],rfl,fun i c v hc=>by simp [xI] at hc,.nil⟩,hg,hR,fun _ h=>h,fun _ _=>rfl⟩;simp only [xI] at hid;by_cases hi:i<ds.length
 ·rw [d8O (by simpa using hi),d8N,d8H hi] at hid;simp at hid;subst hid;have:=hv i ds[i] (d8H hi);rw [Array.getElem?_append_left (by omega)] at hiv;have hg:args.getD i undef=v:=by simp [d8F,hiv]
  rw [hg] at this;exact .d _ _ this
 ·rw [d8L (by simp;omega),List.getElem?_replicate] at hid;split at hid<;>simp at hid;subst hid;rw [Array.getElem?_append_right (by omega),Array.getElem?_replicate] at hiv;split at hiv<;>simp at hiv;subst hiv;exact .cT #[] [] rfl (by simp)
theorem CS.d6c {f:FuncId}{fn:Func}{c:Code}{n:Nat}{ds:List D}{r:DV}{own:Option TypeId}(hf:P.funcs[f]? =some fn)(hb:fn.body=some c)(hn:fn.ntmps=n)(h:VW P G c (xI ds n) fun e s=>(e= .normal∨e= .ret)∧b6c (c1Z P s fn.results.toList) r∧b6d s fn.results.toList own):CS P G f ds r own:=by
 intro w R args hg hR hl hv;refine calls_of_wp hf hb ?_
 have hrel:=Rel.init (P:=P) (G:=G) fn hg hR hl hv;rw [← hn] at h;refine wp_mono (a1m c _ _ h (vL w.heap.size) R _ _ w hrel) fun e a' w' ⟨s,R',μ',⟨he,hres,jW⟩,hr',hs⟩=>?_
 obtain ⟨r0,hres,hwk⟩:=a9j hres;obtain ⟨v,hv1,hv2⟩:=c0J hr' hres;have hpost:a'.defers=[]∧∃v,(results fn a'.tmps).run P w'= .ok v w'∧∃v' R',Ending.returned v= .returned v'∧(∀μ,TV R' μ w' v' r)∧Step (vL w.heap.size) R w R' w'∧(∀b o,R' b o→b<w'.heap.size)∧(∀e,own=some e→mX P (vL w.heap.size) R' w' e v'):=
  ⟨hr'.defers,v,hv1,v,R',rfl,fun μ=>(hv2 μ).wk hwk,hs,hr'.oP,fun e he'=>by subst he';exact b6e hr' jW hv1⟩
 rcases he with rfl|rfl
 ·exact hpost
 ·exact hpost
theorem Enters.mk {f:FuncId}{fn:Func}(hf:P.funcs[f]? =some fn)(h:(fn.body.isNone==false&&(fn.name== "runtime.NumGoroutine")==false)=true):Enters P f:=by
 simp only [d8D,beq_iff_eq] at h;exact ⟨fn,hf,h.1,h.2⟩
end
inductive KI where
 |code (c:Code)
 |blk (id:Nat)
 |ops (q:Bool) (all:Array Oper) (rest:List Oper)
 |scp
def VK (P:Program)(G:GT):List KI→Exit→St→(Exit→St→Prop)→Prop
 |[],e,st,Q=>Q e st
 | .code c::k,.normal,st,Q=>VW P G c st fun e s=>VK P G k e s Q
 | .code _::k,e,st,Q=>VK P G k e st Q
 | .blk id::k,.exit id',st,Q=>if id'=id then VK P G k .normal st Q else VK P G k (.exit id') st Q
 | .blk _::k,e,st,Q=>VK P G k e st Q
 | .ops q all rest::k,.normal,st,Q=>rF P G q all rest st fun s=>VK P G k .normal s Q
 | .ops _ _ _::k,e,st,Q=>VK P G k e st Q
 | .scp::_,.goto _,_,_=>False
 | .scp::k,e,st,Q=>VK P G k e st Q
def b6f (P:Program)(G:GT)(v:DV)(x y:Code)(k:List KI)(st:St)(Q:Exit→St→Prop):Prop:=
 match v with
 | .d (.bool t)=>if t then VK P G (.code x::k) .normal st Q else VK P G (.code y::k) .normal st Q
 | .oN=>VK P G (.code x::k) .normal st Q∧VK P G (.code y::k) .normal st Q
 |_=>False
section
variable {P:Program} {G:GT} {k:List KI} {st:St} {Q:Exit→St→Prop}
theorem d2Y (e:Exit):VK P G [] e st Q=Q e st:=rfl
theorem c8B:VK P G (.code .skip::k) .normal st Q=VK P G k .normal st Q:=rfl
theorem d2Z (x y:Code):VK P G (.code (.seq x y)::k) .normal st Q=VK P G (.code x:: .code y::k) .normal st Q:=by simp only [VK,VW];congr 1;funext e s;cases e<;>rfl
theorem c8C (c:Operand)(x y:Code):VK P G (.code (.cond c x y)::k) .normal st Q=b6f P G (st.eval G c) x y k st Q:=rfl
theorem c4o (id:Nat)(c:Code):VK P G (.code (.block id c)::k) .normal st Q=VK P G (.code c:: .blk id::k) .normal st Q:=by simp only [VK,VW];congr 1;funext e s;cases e<;>rfl
theorem c4p (l:Nat):VK P G (.code (.label l)::k) .normal st Q=VK P G k .normal st Q:=rfl
theorem b1z:VK P G (.scp::k) .normal st Q=VK P G k .normal st Q:=rfl
theorem b8T:VK P G (.scp::k) .ret st Q=VK P G k .ret st Q:=rfl
theorem b6g (id:Nat):VK P G (.scp::k) (.exit id) st Q=VK P G k (.exit id) st Q:=rfl
theorem c2a (id:Nat)(ops:Array Oper):VK P G (.code (.region id ops false)::k) .normal st Q=VK P G (.ops false ops ops.toList::k) .normal st Q:=by simp only [VK,VW];simp
def mK (P:Program)(ops:Array Oper):Prop:=P.follows .mixedOrders=true∧c4e ops=true
theorem mK.mk {ops:Array Oper}(h:(P.follows .mixedOrders&&c4e ops)=true):mK P ops:=by simpa [mK] using h
theorem c4q (id:Nat)(ops:Array Oper):VK P G (.code (.region id ops true)::k) .normal st Q=(mK P ops∧a6n ops st=true∧VK P G (.ops true ops ops.toList::k) .normal st Q):=by simp only [VK,VW,mK];simp [and_assoc]
theorem c8D (id:Nat):VK P G (.code (.exit id)::k) .normal st Q=VK P G k (.exit id) st Q:=rfl
theorem d3a:VK P G (.code .ret::k) .normal st Q=VK P G k .ret st Q:=rfl
theorem c8E (c:Code):VK P G (.code (.loop c)::k) .normal st Q=SW P G (.loop c) st (fun e s=>VK P G k e s Q):=rfl
theorem b6h (c:Code):VK P G (.code c::k) .ret st Q=VK P G k .ret st Q:=rfl
theorem b3V (c:Code)(id:Nat):VK P G (.code c::k) (.exit id) st Q=VK P G k (.exit id) st Q:=rfl
theorem b1A (id:Nat):VK P G (.blk id::k) .normal st Q=VK P G k .normal st Q:=rfl
theorem b8U (id:Nat):VK P G (.blk id::k) .ret st Q=VK P G k .ret st Q:=rfl
theorem b6i (id id':Nat):VK P G (.blk id::k) (.exit id') st Q=if id'=id then VK P G k .normal st Q else VK P G k (.exit id') st Q:=rfl
theorem b8V (q:Bool)(all:Array Oper):VK P G (.ops q all []::k) .normal st Q=VK P G k .normal st Q:=rfl
def aI (P:Program)(G:GT)(q ro qn:Bool)(f:FuncId)(ds:List D)(ls:List (Option Loc))(dst:Option Tmp)(all:Array Oper)(rest:List Oper)(k:List KI)(st:St)(Q:Exit→St→Prop):Prop:=
 (∃r own,(Enters P f∧CS P G f ds r own)∧(q=true→pO r=true)∧VK P G (.ops q all rest::k) .normal (finish st dst r (if qn then .no else a1M own)) Q)∨
 (ro=false∧∃s',(Enters P f∧mC P G f (ds.map .d) ls st dst s')∧VK P G (.ops q all rest::k) .normal s' Q)
theorem aI.mk {q ro qn:Bool}{ls:List (Option Loc)}{f:FuncId}{ds:List D}{r:DV}{own:Option TypeId}{dst:Option Tmp}{all:Array Oper}{rest:List Oper}(he:Enters P f)(hc:CS P G f ds r own)(h:VK P G (.ops q all rest::k) .normal (finish st dst r (if qn then .no else a1M own)) Q)(hkl:pO r=true:=by rfl):aI P G q ro qn f ds ls dst all rest k st Q:= .inl ⟨r,own,⟨he,hc⟩,fun _=>hkl,h⟩
def a7q (P:Program)(G:GT)(q:Bool)(x:Option Out)(dst:Option Tmp)(all:Array Oper)(rest:List Oper)(k:List KI)(Q:Exit→St→Prop):Prop:=
 match x with
 |some out=>VK P G (.ops q all rest::k) .normal (finish out.st dst out.v out.act) Q
 |none=>False
theorem b8W {q:Bool}{st':St}{v:DV}{act:OA}{dst:Option Tmp}{all:Array Oper}{rest:List Oper}:a7q P G q (some ⟨v,act,st'⟩) dst all rest k Q=VK P G (.ops q all rest::k) .normal (finish st' dst v act) Q:=rfl
theorem b8X (x y:Code):b6f P G (.d (.bool true)) x y k st Q=VK P G (.code x::k) .normal st Q:=rfl
theorem c2b (x y:Code):b6f P G .oN x y k st Q=(VK P G (.code x::k) .normal st Q∧VK P G (.code y::k) .normal st Q):=rfl
theorem b6j (x y:Code):b6f P G (.d (.bool false)) x y k st Q=VK P G (.code y::k) .normal st Q:=rfl
def gD (P:Program)(G:GT)(q ro:Bool)(f:FuncId)(d8B:List DV)(ls:List (Option Loc))(dst:Option Tmp)(all:Array Oper)(rest:List Oper)(k:List KI)(st:St)(Q:Exit→St→Prop):Prop:=
 yJ P G ro f d8B ls dst st fun s=>VK P G (.ops q all rest::k) .normal s Q
def a7r (P:Program)(G:GT)(q:Bool)(o:Oper)(all:Array Oper)(rest:List Oper)(k:List KI)(st:St)(Q:Exit→St→Prop):Prop:=
 match gP G o st with
 |some (f,ds)=>aI P G q (pP q all o) (q&& !rD all o) f ds (jH o) o.dst all rest k st Q
 |none=>
  match dD G o st with
  |some (f,d8B)=>gD P G q (pP q all o) f d8B (jH o) o.dst all rest k st Q
  |none=>a7q P G q ((jO P G o st).map fun out=>⟨out.v,a5a q all o out.v out.act,out.st⟩) o.dst all rest k Q
def a0C (P:Program)(G:GT)(q:Bool)(y:DV)(want:Bool)(o:Oper)(all:Array Oper)(rest:List Oper)(k:List KI)(st:St)(Q:Exit→St→Prop):Prop:=
 match y with
 | .undef=>False
 | .oN=>False
 | .d (.bool b)=>if b=want then a7r P G q o all rest k st Q else VK P G (.ops q all rest::k) .normal (finish st o.dst (.cT []) .no) Q
 |_=>VK P G (.ops q all rest::k) .normal (finish st o.dst (.cT []) .no) Q
theorem yL (q:Bool)(b want:Bool)(o:Oper)(all:Array Oper)(rest:List Oper):a0C P G q (.d (.bool b)) want o all rest k st Q=if b=want then a7r P G q o all rest k st Q else VK P G (.ops q all rest::k) .normal (finish st o.dst (.cT []) .no) Q:=rfl
theorem b8Y (q:Bool)(ds:List D)(want:Bool)(o:Oper)(all:Array Oper)(rest:List Oper):a0C P G q (.cT ds) want o all rest k st Q=VK P G (.ops q all rest::k) .normal (finish st o.dst (.cT []) .no) Q:=rfl
theorem a7s (q:Bool)(all:Array Oper)(o:Oper)(rest:List Oper):VK P G (.ops q all (o::rest)::k) .normal st Q=match eA o all st.tmps with
  |some true=>a7r P G q o all rest k st Q
  |some false=>VK P G (.ops q all rest::k) .normal (finish st o.dst (.cT []) .no) Q
  |none=>False:=by
 simp only [VK,rF,kO,a7r,aI,gD,a7q];split<;>rename_i hw<;>(try simp only [hw]);split<;>rename_i hc<;>(try simp only [hc]);generalize dD G o st=x;cases x with
 |some p=>rfl
 |none=>cases jO P G o st<;>rfl
theorem b6k (q:Bool)(all:Array Oper)(dst:Option Tmp)(op:Op)(ty:TypeId)(pos:String)(after:Array Edge)(rest:List Oper):
  VK P G (.ops q all (⟨dst,op,ty,pos,after,none⟩::rest)::k) .normal st Q=a7r P G q ⟨dst,op,ty,pos,after,none⟩ all rest k st Q:=by
 rw [a7s]
 rfl
theorem b3W (q:Bool)(all:Array Oper)(dst:Option Tmp)(op:Op)(ty:TypeId)(pos:String)(after:Array Edge)(j:Nat)(want:Bool)(rest:List Oper):
  VK P G (.ops q all (⟨dst,op,ty,pos,after,some (j,want)⟩::rest)::k) .normal st Q=a0C P G q (rK all st.tmps j) want ⟨dst,op,ty,pos,after,some (j,want)⟩ all rest k st Q:=by
 rw [a7s];simp only [eA,a0C];generalize rK all st.tmps j=y;cases y with
 |d x=>
  cases x with
  |bool b=>cases b<;>cases want<;>rfl
  |_=>rfl
 |_=>rfl
theorem CS.bH {f:FuncId}{fn:Func}{c:Code}{n:Nat}{ds:List D}{r:DV}{own:Option TypeId}(hf:P.funcs[f]? =some fn)(hb:fn.body=some c)(hn:fn.ntmps=n){rs:List ResultVar}(hrs:fn.results.toList=rs)(h:VK P G [.code c] .normal (xI ds n) fun e s=>(e= .normal∨e= .ret)∧b6c (c1Z P s rs) r∧b6d s rs own):CS P G f ds r own:=by subst hrs;exact CS.d6c hf hb hn h
theorem gD.mk' {q ro:Bool}{ls:List (Option Loc)}{f:FuncId}{d8B:List DV}{dst:Option Tmp}{all:Array Oper}{rest:List Oper}(h:∃s',(Enters P f∧mC P G f d8B ls st dst s')∧VK P G (.ops q all rest::k) .normal s' Q)(hro:ro=false):gD P G q ro f d8B ls dst all rest k st Q:=by subst hro;exact h
theorem aI.eI {q ro qn:Bool}{ls:List (Option Loc)}{f:FuncId}{ds:List D}{dst:Option Tmp}{all:Array Oper}{rest:List Oper}(h:∃s',(Enters P f∧mC P G f (ds.map .d) ls st dst s')∧VK P G (.ops q all rest::k) .normal s' Q)(hro:ro=false):aI P G q ro qn f ds ls dst all rest k st Q:= .inr ⟨hro,h⟩
theorem gD.ro' {q ro:Bool}{ls:List (Option Loc)}{f:FuncId}{d8B:List DV}{dst:Option Tmp}{all:Array Oper}{rest:List Oper}{d:DV}{ks:List Nat}(he:Enters P f)(hr:RO P G f d8B ks st.H d)(hn:jQ ks st.own=true)(hks:(ks.all fun k=>(getKey k st.H).isSome)=true)(hkl:pO d=true)(h:VK P G (.ops q all rest::k) .normal (finish st dst d .no) Q):gD P G q ro f d8B ls dst all rest k st Q:=by
 cases ro
 ·exact ⟨_,⟨he,hr st (fun _ _=>rfl) hn dst ls⟩,h⟩
 ·exact ⟨d,ks,⟨he,hr,hn,hks,hkl⟩,h⟩
theorem b6l {c:Code}(h:VK P G [.code c] .normal st Q):VW P G c st Q:=h
theorem SW.d6d {ι:Type}{c:Code}(I:ι→St)(m:ι→Nat)(x0:ι)(h0:wD st (I x0))(round:∀x,VK P G [.code c] .normal (I x) fun e s=>match e with
   | .normal=>∃y,wD s (I y)∧m y<m x
   |e=>Q e s):SW P G (.loop c) st Q:=SW.loop I m x0 h0 round
end
attribute [irreducible] VK aI gD a7q b6f a0C
end Go.VM
namespace Go.VM
open Go Go.RowKit
attribute [simp] b2m takeA c4p b1z b8T b6g d2Y c8B d2Z c8C c4o c2a c4q a5a a3r rD yI a8v dA c8D d3a c8E b6h b3V b1A b8U b6i b8V b6k b3W a7r b8W b8X b6j c2b b8Y rK gP dD a2P rQ DV.cell a7c b2l a8K cellOf yG b3F b3I mentions kH yF a6n eQ eL cF qM Loc.uW pO jH a1F a2Q vK a4R jO c1L c1M zV a8L a6i c8j a3Z pW a7d pJ sE b8z a8M b3G wY vUn a8N a4S a2R wZ xA a4a a4b pX pY a4c b3H c0B c1K a0s a8s pZ St.eval ofConst uV tN finish eH eW getKey cI wW jT jP cL dropKey addAlias Loc.uW pV rR takeD mI c3T c8i b8y wX vZ pM uX qK overwrite b2k isD tO zH idx bound gB findKeyD a2N a2O gH c8k c0A c1J tP D.one D.cells a1M xI c4n a1U c1Z c8y
def b3X:Code→List Nat
 | .region _ ops _=>ops.toList.filterMap (·.dst)
 | .seq a b=>b3X a++b3X b
 | .cond _ a b=>b3X a++b3X b
 | .block _ c=>b3X c
 | .scope c=>b3X c
 | .loop c=>b3X c
 |_=>[]
def a9k:List Nat→List DV→List DV
 |[],l=>l
 |i::r,l=>a9k r (l.set i .undef)
def b8Z:List (Nat×DV)→List DV→List DV
 |[],l=>l
 |(i,v)::r,l=>b8Z r (l.set i v)
def mU (c:Code)(st:St)(ws:List (Nat×DV))(H:List (Nat×aZ))(own:List (TypeId×List Loc)):St:=⟨b8Z ws (a9k (b3X c) st.tmps),H,own⟩
theorem c4r (s s':St):wD s s'↔WkT s.tmps s'.tmps∧WkH s.H s'.H∧a5f s s.own s'.own=true∧bC s'.H s'.own=true:=⟨fun h=>⟨h.tmps,h.H,h.own,h.keys⟩,fun h=>⟨h.1,h.2.1,h.2.2.1,h.2.2.2⟩⟩
def bR {ι:Type}(F:ι→St)(m:ι→Nat)(x:ι)(s:St):Prop:=∃y,wD s (F y)∧m y<m x
theorem bR.mk {ι:Type}{F:ι→St}{m:ι→Nat}{x:ι}{s:St}(y:ι)(h:wD s (F y))(hm:m y<m x):bR F m x s:=⟨y,h,hm⟩
theorem SW.kJ {P:Program}{G:GT}{st:St}{Q:Exit→St→Prop}{c:Code}{ι:Type}(ws:ι→List (Nat×DV))(H:ι→List (Nat×aZ))(own:ι→List (TypeId×List Loc))(m:ι→Nat)(x0:ι)(h0:wD st (mU c st (ws x0) (H x0) (own x0)))(round:∀x,VK P G [.code c] .normal (mU c st (ws x) (H x) (own x)) fun e s=>match e with
   | .normal=>bR (fun y=>mU c st (ws y) (H y) (own y)) m x s
   |e=>Q e s):SW P G (.loop c) st Q:=SW.d6d (fun x=>mU c st (ws x) (H x) (own x)) m x0 h0 round
attribute [irreducible] bR
attribute [simp] b3X a9k b8Z mU c4r WkT WkO WkH a5f a9f isNil wC bC
theorem c2c {P:Program}{G:GT}{k:List KI}{st:St}{Q:Exit→St→Prop}{q:Bool}(o:Oper)(all:Array Oper)(rest:List Oper):a0C P G q (.d (.bool true)) true o all rest k st Q=a7r P G q o all rest k st Q:=by rw [yL,if_pos rfl]
theorem c2d {P:Program}{G:GT}{k:List KI}{st:St}{Q:Exit→St→Prop}{q:Bool}(o:Oper)(all:Array Oper)(rest:List Oper):a0C P G q (.d (.bool false)) false o all rest k st Q=a7r P G q o all rest k st Q:=by rw [yL,if_pos rfl]
theorem c2e {P:Program}{G:GT}{k:List KI}{st:St}{Q:Exit→St→Prop}{q:Bool}(o:Oper)(all:Array Oper)(rest:List Oper):a0C P G q (.d (.bool true)) false o all rest k st Q=VK P G (.ops q all rest::k) .normal (finish st o.dst (.cT []) .no) Q:=by rw [yL,if_neg (by decide)]
theorem c2f {P:Program}{G:GT}{k:List KI}{st:St}{Q:Exit→St→Prop}{q:Bool}(o:Oper)(all:Array Oper)(rest:List Oper):a0C P G q (.d (.bool false)) true o all rest k st Q=VK P G (.ops q all rest::k) .normal (finish st o.dst (.cT []) .no) Q:=by rw [yL,if_neg (by decide)]
attribute [simp] c2c c2d c2e c2f
attribute [simp] c4j a9h b2A c4k c4l c8w d2X c8x c4m a6o b6c b6d
theorem c8F (a b:Int):(a==b)=decide (a=b):=rfl
theorem c8G (a b:Int):(a !=b)= !decide (a=b):=rfl
theorem d3b (a b:List UInt8):(a==b)=decide (a=b):=by by_cases h:a=b<;>simp [h]
attribute [simp] c8F c8G d3b
theorem b6m (n m:Nat):((no_index (OfNat.ofNat n):Int)≤(m:Int))=((OfNat.ofNat n:Nat)≤m):=propext Int.ofNat_le
theorem b6n (n m:Nat):((m:Int)≤(no_index (OfNat.ofNat n):Int))=(m≤(OfNat.ofNat n:Nat)):=propext Int.ofNat_le
theorem b6o (n m:Nat):((no_index (OfNat.ofNat n):Int)<(m:Int))=((OfNat.ofNat n:Nat)<m):=propext Int.ofNat_lt
theorem b6p (n m:Nat):((m:Int)<(no_index (OfNat.ofNat n):Int))=(m<(OfNat.ofNat n:Nat)):=propext Int.ofNat_lt
theorem b6q (n m:Nat):((m:Int)=(no_index (OfNat.ofNat n):Int))=(m=(OfNat.ofNat n:Nat)):=propext Int.ofNat_inj
theorem b3Y (n m:Nat):(((n:Int)+1)≤(m:Int))=(n+1≤m):=by apply propext;omega
theorem b3Z (n m:Nat):(((n:Int)+1)<(m:Int))=(n+1<m):=by apply propext;omega
theorem b6r (n:Nat):(0≤(n:Int)+1)=True:=by apply propext;simp;omega
attribute [simp] b3Y b3Z b6r
attribute [simp] b6m b6n b6o b6p b6q
end Go.VM
end
namespace Go.Proofs.YtjpodcmhcenjjaaGreatDoor
section
open Go Go.VM
@[simp] theorem d5v:Tryz.prog.cellsOf 3=1:=by kernel_rfl
@[simp] theorem d5w:jA Tryz.prog 3=some [.int .i64 0]:=by kernel_rfl
@[simp] theorem d5x:Tryz.prog.cellsOf 4=1:=by kernel_rfl
@[simp] theorem d5y:Tryz.prog.cellsOf 9=1:=by kernel_rfl
@[simp] theorem d5z:Tryz.prog.bytesOf 9=16:=by kernel_rfl
@[simp] theorem d3c:Tryz.prog.cellsOf 24=1:=by kernel_rfl
@[simp] theorem d3d:Tryz.prog.cellsOf 25=1:=by kernel_rfl
@[simp] theorem d3e:jA Tryz.prog 25=some [.aN]:=by kernel_rfl
@[simp] theorem d5A:eY Tryz.prog 25=some 30:=by kernel_rfl
@[simp] theorem d3f:Tryz.prog.cellsOf 26=1:=by kernel_rfl
@[simp] theorem d5B:eY Tryz.prog 26=some 135:=by kernel_rfl
@[simp] theorem d3g:Tryz.prog.cellsOf 27=1:=by kernel_rfl
@[simp] theorem d5C:eY Tryz.prog 27=some 91:=by kernel_rfl
@[simp] theorem d3h:Tryz.prog.cellsOf 28=1:=by kernel_rfl
@[simp] theorem d3i:jA Tryz.prog 28=some [.aN]:=by kernel_rfl
@[simp] theorem d5D:eY Tryz.prog 28=some 45:=by kernel_rfl
@[simp] theorem d3j:Tryz.prog.cellsOf 30=7:=by kernel_rfl
@[simp] theorem d3k:Tryz.prog.bytesOf 30=128:=by kernel_rfl
@[simp] theorem d3l:jA Tryz.prog 30=some [.int .i64 0,.str [],.int .i64 0,.aN,.aN,.aN,.aN]:=by kernel_rfl
@[simp] theorem c7f:dJ Tryz.prog 30=true:=by kernel_rfl
@[simp] theorem c8I:aM Tryz.prog 30 0=some (0,24):=by kernel_rfl
@[simp] theorem c8J:aM Tryz.prog 30 1=some (1,9):=by kernel_rfl
@[simp] theorem c8K:aM Tryz.prog 30 2=some (2,3):=by kernel_rfl
@[simp] theorem c8L:aM Tryz.prog 30 3=some (3,25):=by kernel_rfl
@[simp] theorem c8M:aM Tryz.prog 30 4=some (4,26):=by kernel_rfl
@[simp] theorem c8N:aM Tryz.prog 30 5=some (5,27):=by kernel_rfl
@[simp] theorem c8O:aM Tryz.prog 30 6=some (6,28):=by kernel_rfl
@[simp] theorem d3m:Tryz.prog.cellsOf 31=1:=by kernel_rfl
@[simp] theorem d3n:jA Tryz.prog 31=some [.int .i64 0]:=by kernel_rfl
@[simp] theorem d3o:Tryz.prog.cellsOf 38=1:=by kernel_rfl
@[simp] theorem d3p:Tryz.prog.cellsOf 39=1:=by kernel_rfl
@[simp] theorem d3q:jA Tryz.prog 39=some [.aN]:=by kernel_rfl
@[simp] theorem d5E:eY Tryz.prog 39=some 9:=by kernel_rfl
@[simp] theorem d3r:Tryz.prog.cellsOf 40=1:=by kernel_rfl
@[simp] theorem d3s:Tryz.prog.cellsOf 41=1:=by kernel_rfl
@[simp] theorem d5F:eY Tryz.prog 41=some 43:=by kernel_rfl
@[simp] theorem d3t:Tryz.prog.cellsOf 43=4:=by kernel_rfl
@[simp] theorem d3u:Tryz.prog.bytesOf 43=56:=by kernel_rfl
@[simp] theorem d3v:jA Tryz.prog 43=some [.int .i64 0,.str [],.int .i64 0,.aN]:=by kernel_rfl
@[simp] theorem c7g:dJ Tryz.prog 43=true:=by kernel_rfl
@[simp] theorem c8P:aM Tryz.prog 43 0=some (0,40):=by kernel_rfl
@[simp] theorem c8Q:aM Tryz.prog 43 1=some (1,9):=by kernel_rfl
@[simp] theorem c8R:aM Tryz.prog 43 2=some (2,3):=by kernel_rfl
@[simp] theorem c8S:aM Tryz.prog 43 3=some (3,41):=by kernel_rfl
@[simp] theorem d3w:Tryz.prog.cellsOf 45=9:=by kernel_rfl
@[simp] theorem d3x:Tryz.prog.bytesOf 45=152:=by kernel_rfl
@[simp] theorem d3y:jA Tryz.prog 45=some [.int .i64 0,.str [],.aN,.aN,.int .i64 0,.str [],.int .i64 0,.aN,.aN]:=by kernel_rfl
@[simp] theorem c7h:dJ Tryz.prog 45=true:=by kernel_rfl
@[simp] theorem c8T:aM Tryz.prog 45 0=some (0,38):=by kernel_rfl
@[simp] theorem c8U:aM Tryz.prog 45 1=some (1,9):=by kernel_rfl
@[simp] theorem c8V:aM Tryz.prog 45 2=some (2,28):=by kernel_rfl
@[simp] theorem c8W:aM Tryz.prog 45 3=some (3,39):=by kernel_rfl
@[simp] theorem c8X:aM Tryz.prog 45 4=some (4,43):=by kernel_rfl
@[simp] theorem c8Y:aM Tryz.prog 45 5=some (8,41):=by kernel_rfl
@[simp] theorem d3z:Tryz.prog.cellsOf 51=1:=by kernel_rfl
@[simp] theorem d5G:eY Tryz.prog 51=some 78:=by kernel_rfl
@[simp] theorem d3A:Tryz.prog.cellsOf 52=1:=by kernel_rfl
@[simp] theorem d5H:eY Tryz.prog 52=some 111:=by kernel_rfl
@[simp] theorem d3B:Tryz.prog.cellsOf 53=1:=by kernel_rfl
@[simp] theorem d5I:eY Tryz.prog 53=some 114:=by kernel_rfl
@[simp] theorem d3C:Tryz.prog.cellsOf 54=1:=by kernel_rfl
@[simp] theorem d5J:eY Tryz.prog 54=some 82:=by kernel_rfl
@[simp] theorem d3D:Tryz.prog.cellsOf 55=1:=by kernel_rfl
@[simp] theorem d5K:eY Tryz.prog 55=some 118:=by kernel_rfl
@[simp] theorem d3E:Tryz.prog.cellsOf 56=1:=by kernel_rfl
@[simp] theorem d5L:eY Tryz.prog 56=some 70:=by kernel_rfl
@[simp] theorem d3F:Tryz.prog.cellsOf 58=6:=by kernel_rfl
@[simp] theorem d3G:jA Tryz.prog 58=some [.aN,.aN,.aN,.aN,.aN,.aN]:=by kernel_rfl
@[simp] theorem c7i:dJ Tryz.prog 58=true:=by kernel_rfl
@[simp] theorem c8Z:aM Tryz.prog 58 0=some (0,51):=by kernel_rfl
@[simp] theorem c9a:aM Tryz.prog 58 1=some (1,52):=by kernel_rfl
@[simp] theorem c9b:aM Tryz.prog 58 2=some (2,53):=by kernel_rfl
@[simp] theorem c9c:aM Tryz.prog 58 3=some (3,54):=by kernel_rfl
@[simp] theorem c9d:aM Tryz.prog 58 4=some (4,55):=by kernel_rfl
@[simp] theorem c9e:aM Tryz.prog 58 5=some (5,56):=by kernel_rfl
@[simp] theorem d3H:Tryz.prog.cellsOf 63=1:=by kernel_rfl
@[simp] theorem d3I:Tryz.prog.cellsOf 64=1:=by kernel_rfl
@[simp] theorem d3J:jA Tryz.prog 64=some [.aN]:=by kernel_rfl
@[simp] theorem d5M:eY Tryz.prog 64=some 181:=by kernel_rfl
@[simp] theorem d3K:Tryz.prog.cellsOf 65=1:=by kernel_rfl
@[simp] theorem d5N:eY Tryz.prog 65=some 161:=by kernel_rfl
@[simp] theorem d3L:Tryz.prog.cellsOf 66=1:=by kernel_rfl
@[simp] theorem d5O:eY Tryz.prog 66=some 163:=by kernel_rfl
@[simp] theorem d3M:Tryz.prog.cellsOf 68=14:=by kernel_rfl
@[simp] theorem d3N:jA Tryz.prog 68=some [.aN,.aN,.aN,.aN,.int .i64 0,.str [],.aN,.aN,.int .i64 0,.str [],.int .i64 0,.aN,.aN,.aN]:=by kernel_rfl
@[simp] theorem c9f:aM Tryz.prog 68 0=some (0,39):=by kernel_rfl
@[simp] theorem c9g:aM Tryz.prog 68 1=some (1,64):=by kernel_rfl
@[simp] theorem c9h:aM Tryz.prog 68 2=some (2,65):=by kernel_rfl
@[simp] theorem c9i:aM Tryz.prog 68 3=some (3,66):=by kernel_rfl
@[simp] theorem c9j:aM Tryz.prog 68 4=some (4,45):=by kernel_rfl
@[simp] theorem c9k:aM Tryz.prog 68 5=some (13,41):=by kernel_rfl
@[simp] theorem d3O:Tryz.prog.cellsOf 70=25:=by kernel_rfl
@[simp] theorem d3P:Tryz.prog.bytesOf 70=456:=by kernel_rfl
@[simp] theorem d3Q:jA Tryz.prog 70=some [.str [],.aN,.int .i64 0,.str [],.int .i64 0,.aN,.aN,.aN,.aN,.int .i64 0,.bool false,.aN,.aN,.aN,.aN,.int .i64 0,.str [],.aN,.aN,.int .i64 0,.str [],.int .i64 0,.aN,.aN,.aN]:=by kernel_rfl
@[simp] theorem c7j:dJ Tryz.prog 70=true:=by kernel_rfl
@[simp] theorem c9l:aM Tryz.prog 70 0=some (0,9):=by kernel_rfl
@[simp] theorem c9m:aM Tryz.prog 70 1=some (1,39):=by kernel_rfl
@[simp] theorem c9n:aM Tryz.prog 70 2=some (2,30):=by kernel_rfl
@[simp] theorem c9o:aM Tryz.prog 70 3=some (9,63):=by kernel_rfl
@[simp] theorem c9p:aM Tryz.prog 70 4=some (10,4):=by kernel_rfl
@[simp] theorem c9q:aM Tryz.prog 70 5=some (11,68):=by kernel_rfl
@[simp] theorem d3R:Tryz.prog.cellsOf 75=1:=by kernel_rfl
@[simp] theorem d3S:jA Tryz.prog 75=some [.aN]:=by kernel_rfl
@[simp] theorem d5P:eY Tryz.prog 75=some 179:=by kernel_rfl
@[simp] theorem d3T:Tryz.prog.cellsOf 76=1:=by kernel_rfl
@[simp] theorem d5Q:eY Tryz.prog 76=some 147:=by kernel_rfl
@[simp] theorem d3U:Tryz.prog.cellsOf 78=4:=by kernel_rfl
@[simp] theorem d3V:Tryz.prog.bytesOf 78=88:=by kernel_rfl
@[simp] theorem d3W:jA Tryz.prog 78=some [.str [],.aN,.aN,.aN]:=by kernel_rfl
@[simp] theorem c7k:dJ Tryz.prog 78=true:=by kernel_rfl
@[simp] theorem c9r:aM Tryz.prog 78 0=some (0,9):=by kernel_rfl
@[simp] theorem c9s:aM Tryz.prog 78 1=some (1,39):=by kernel_rfl
@[simp] theorem c9t:aM Tryz.prog 78 2=some (2,75):=by kernel_rfl
@[simp] theorem c9u:aM Tryz.prog 78 3=some (3,76):=by kernel_rfl
@[simp] theorem d3X:Tryz.prog.cellsOf 79=1:=by kernel_rfl
@[simp] theorem d3Y:Tryz.prog.cellsOf 80=1:=by kernel_rfl
@[simp] theorem d5R:eY Tryz.prog 80=some 151:=by kernel_rfl
@[simp] theorem d3Z:Tryz.prog.cellsOf 82=8:=by kernel_rfl
@[simp] theorem d4a:Tryz.prog.bytesOf 82=128:=by kernel_rfl
@[simp] theorem d4b:jA Tryz.prog 82=some [.str [],.str [],.str [],.aN,.int .i64 0,.str [],.int .i64 0,.aN]:=by kernel_rfl
@[simp] theorem c7l:dJ Tryz.prog 82=true:=by kernel_rfl
@[simp] theorem c9v:aM Tryz.prog 82 0=some (0,9):=by kernel_rfl
@[simp] theorem c9w:aM Tryz.prog 82 1=some (1,9):=by kernel_rfl
@[simp] theorem c9x:aM Tryz.prog 82 2=some (2,79):=by kernel_rfl
@[simp] theorem c9y:aM Tryz.prog 82 3=some (3,80):=by kernel_rfl
@[simp] theorem c9z:aM Tryz.prog 82 4=some (4,43):=by kernel_rfl
@[simp] theorem d4c:Tryz.prog.cellsOf 91=9:=by kernel_rfl
@[simp] theorem d4d:Tryz.prog.bytesOf 91=168:=by kernel_rfl
@[simp] theorem d4e:jA Tryz.prog 91=some [.str [],.aN,.int .i64 0,.str [],.int .i64 0,.aN,.aN,.aN,.aN]:=by kernel_rfl
@[simp] theorem c7m:dJ Tryz.prog 91=true:=by kernel_rfl
@[simp] theorem c9A:aM Tryz.prog 91 0=some (0,9):=by kernel_rfl
@[simp] theorem c9B:aM Tryz.prog 91 1=some (1,39):=by kernel_rfl
@[simp] theorem c9C:aM Tryz.prog 91 2=some (2,30):=by kernel_rfl
@[simp] theorem d4f:Tryz.prog.cellsOf 94=1:=by kernel_rfl
@[simp] theorem d4g:Tryz.prog.cellsOf 96=4:=by kernel_rfl
@[simp] theorem d4h:Tryz.prog.bytesOf 96=40:=by kernel_rfl
@[simp] theorem d4i:jA Tryz.prog 96=some [.int .i64 0,.str [],.int .i64 0,.int .i64 0]:=by kernel_rfl
@[simp] theorem c7n:dJ Tryz.prog 96=true:=by kernel_rfl
@[simp] theorem c9D:aM Tryz.prog 96 0=some (0,94):=by kernel_rfl
@[simp] theorem c9E:aM Tryz.prog 96 1=some (1,9):=by kernel_rfl
@[simp] theorem c9F:aM Tryz.prog 96 2=some (2,3):=by kernel_rfl
@[simp] theorem c9G:aM Tryz.prog 96 3=some (3,3):=by kernel_rfl
@[simp] theorem d1s:Tryz.prog.cellsOf 103=1:=by kernel_rfl
@[simp] theorem d4j:eY Tryz.prog 103=some 96:=by kernel_rfl
@[simp] theorem d1t:Tryz.prog.cellsOf 109=1:=by kernel_rfl
@[simp] theorem d4k:eY Tryz.prog 109=some 148:=by kernel_rfl
@[simp] theorem d1u:Tryz.prog.cellsOf 111=3:=by kernel_rfl
@[simp] theorem d1v:Tryz.prog.bytesOf 111=56:=by kernel_rfl
@[simp] theorem d1w:jA Tryz.prog 111=some [.str [],.str [],.aN]:=by kernel_rfl
@[simp] theorem c4s:dJ Tryz.prog 111=true:=by kernel_rfl
@[simp] theorem c7o:aM Tryz.prog 111 0=some (0,9):=by kernel_rfl
@[simp] theorem c7p:aM Tryz.prog 111 1=some (1,9):=by kernel_rfl
@[simp] theorem c7q:aM Tryz.prog 111 2=some (2,109):=by kernel_rfl
@[simp] theorem d1x:Tryz.prog.cellsOf 114=12:=by kernel_rfl
@[simp] theorem d1y:Tryz.prog.bytesOf 114=216:=by kernel_rfl
@[simp] theorem d1z:jA Tryz.prog 114=some [.str [],.int .i64 0,.str [],.aN,.aN,.int .i64 0,.str [],.int .i64 0,.aN,.aN,.aN,.aN]:=by kernel_rfl
@[simp] theorem c4t:dJ Tryz.prog 114=true:=by kernel_rfl
@[simp] theorem c7r:aM Tryz.prog 114 0=some (0,9):=by kernel_rfl
@[simp] theorem c7s:aM Tryz.prog 114 1=some (1,45):=by kernel_rfl
@[simp] theorem c7t:aM Tryz.prog 114 2=some (10,64):=by kernel_rfl
@[simp] theorem c7u:aM Tryz.prog 114 3=some (11,56):=by kernel_rfl
@[simp] theorem d1A:Tryz.prog.cellsOf 118=6:=by kernel_rfl
@[simp] theorem d1B:Tryz.prog.bytesOf 118=96:=by kernel_rfl
@[simp] theorem d1C:jA Tryz.prog 118=some [.str [],.aN,.int .i64 0,.str [],.int .i64 0,.aN]:=by kernel_rfl
@[simp] theorem c4u:dJ Tryz.prog 118=true:=by kernel_rfl
@[simp] theorem c7v:aM Tryz.prog 118 0=some (0,9):=by kernel_rfl
@[simp] theorem c7w:aM Tryz.prog 118 1=some (1,75):=by kernel_rfl
@[simp] theorem c7x:aM Tryz.prog 118 2=some (2,43):=by kernel_rfl
@[simp] theorem d1D:Tryz.prog.cellsOf 127=2:=by kernel_rfl
@[simp] theorem d1E:jA Tryz.prog 127=some [.int .i64 0,.int .i64 0]:=by kernel_rfl
@[simp] theorem c4v:dJ Tryz.prog 127=true:=by kernel_rfl
@[simp] theorem c7y:aM Tryz.prog 127 0=some (0,3):=by kernel_rfl
@[simp] theorem c7z:aM Tryz.prog 127 1=some (1,31):=by kernel_rfl
@[simp] theorem d1F:jA Tryz.prog 130=some [.aN,.int .i64 0]:=by kernel_rfl
@[simp] theorem c4w:dJ Tryz.prog 130=true:=by kernel_rfl
@[simp] theorem c7A:aM Tryz.prog 130 0=some (0,103):=by kernel_rfl
@[simp] theorem c7B:aM Tryz.prog 130 1=some (1,3):=by kernel_rfl
@[simp] theorem d1G:Tryz.prog.cellsOf 135=10:=by kernel_rfl
@[simp] theorem d1H:jA Tryz.prog 135=some [.str [],.int .i64 0,.str [],.aN,.aN,.int .i64 0,.str [],.int .i64 0,.aN,.aN]:=by kernel_rfl
@[simp] theorem c4x:dJ Tryz.prog 135=true:=by kernel_rfl
@[simp] theorem c7C:aM Tryz.prog 135 0=some (0,9):=by kernel_rfl
@[simp] theorem c7D:aM Tryz.prog 135 1=some (1,45):=by kernel_rfl
@[simp] theorem d1I:Tryz.prog.cellsOf 147=3:=by kernel_rfl
@[simp] theorem d1J:Tryz.prog.bytesOf 147=64:=by kernel_rfl
@[simp] theorem d1K:jA Tryz.prog 147=some [.str [],.aN,.aN]:=by kernel_rfl
@[simp] theorem c4y:dJ Tryz.prog 147=true:=by kernel_rfl
@[simp] theorem c7E:aM Tryz.prog 147 0=some (0,9):=by kernel_rfl
@[simp] theorem c7F:aM Tryz.prog 147 1=some (1,39):=by kernel_rfl
@[simp] theorem c7G:aM Tryz.prog 147 2=some (2,28):=by kernel_rfl
@[simp] theorem d1L:Tryz.prog.cellsOf 148=10:=by kernel_rfl
@[simp] theorem d1M:jA Tryz.prog 148=some [.str [],.int .i64 0,.str [],.aN,.aN,.int .i64 0,.str [],.int .i64 0,.aN,.aN]:=by kernel_rfl
@[simp] theorem c4z:dJ Tryz.prog 148=true:=by kernel_rfl
@[simp] theorem c7H:aM Tryz.prog 148 0=some (0,9):=by kernel_rfl
@[simp] theorem c7I:aM Tryz.prog 148 1=some (1,45):=by kernel_rfl
@[simp] theorem d1N:Tryz.prog.cellsOf 151=6:=by kernel_rfl
@[simp] theorem d1O:Tryz.prog.bytesOf 151=96:=by kernel_rfl
@[simp] theorem d1P:jA Tryz.prog 151=some [.str [],.aN,.int .i64 0,.str [],.int .i64 0,.aN]:=by kernel_rfl
@[simp] theorem c4A:dJ Tryz.prog 151=true:=by kernel_rfl
@[simp] theorem c7J:aM Tryz.prog 151 0=some (0,9):=by kernel_rfl
@[simp] theorem c7K:aM Tryz.prog 151 1=some (1,39):=by kernel_rfl
@[simp] theorem c7L:aM Tryz.prog 151 2=some (2,43):=by kernel_rfl
@[simp] theorem d1Q:Tryz.prog.cellsOf 161=2:=by kernel_rfl
@[simp] theorem d1R:Tryz.prog.bytesOf 161=32:=by kernel_rfl
@[simp] theorem d1S:jA Tryz.prog 161=some [.str [],.str []]:=by kernel_rfl
@[simp] theorem c4B:dJ Tryz.prog 161=true:=by kernel_rfl
@[simp] theorem c7M:aM Tryz.prog 161 0=some (0,9):=by kernel_rfl
@[simp] theorem c7N:aM Tryz.prog 161 1=some (1,79):=by kernel_rfl
@[simp] theorem d1T:Tryz.prog.cellsOf 163=10:=by kernel_rfl
@[simp] theorem d1U:Tryz.prog.bytesOf 163=152:=by kernel_rfl
@[simp] theorem d1V:jA Tryz.prog 163=some [.str [],.aN,.int .i64 0,.str [],.int .i64 0,.aN,.int .i64 0,.str [],.int .i64 0,.aN]:=by kernel_rfl
@[simp] theorem c4C:dJ Tryz.prog 163=true:=by kernel_rfl
@[simp] theorem c7O:aM Tryz.prog 163 0=some (0,9):=by kernel_rfl
@[simp] theorem c7P:aM Tryz.prog 163 1=some (1,75):=by kernel_rfl
@[simp] theorem c7Q:aM Tryz.prog 163 2=some (2,43):=by kernel_rfl
@[simp] theorem c7R:aM Tryz.prog 163 3=some (6,43):=by kernel_rfl
@[simp] theorem d1W:Tryz.prog.cellsOf 179=2:=by kernel_rfl
@[simp] theorem d1X:Tryz.prog.bytesOf 179=32:=by kernel_rfl
@[simp] theorem d1Y:jA Tryz.prog 179=some [.str [],.str []]:=by kernel_rfl
@[simp] theorem c4D:dJ Tryz.prog 179=true:=by kernel_rfl
@[simp] theorem c7S:aM Tryz.prog 179 0=some (0,9):=by kernel_rfl
@[simp] theorem c7T:aM Tryz.prog 179 1=some (1,79):=by kernel_rfl
@[simp] theorem d1Z:Tryz.prog.cellsOf 181=2:=by kernel_rfl
@[simp] theorem d2a:Tryz.prog.bytesOf 181=32:=by kernel_rfl
@[simp] theorem d2b:jA Tryz.prog 181=some [.str [],.str []]:=by kernel_rfl
@[simp] theorem c4E:dJ Tryz.prog 181=true:=by kernel_rfl
@[simp] theorem c7U:aM Tryz.prog 181 0=some (0,9):=by kernel_rfl
@[simp] theorem c7V:aM Tryz.prog 181 1=some (1,9):=by kernel_rfl
@[simp] theorem d2c:Tryz.prog.cellsOf 199=42:=by kernel_rfl
@[simp] theorem d2d:Tryz.prog.cellsOf 204=1:=by kernel_rfl
@[simp] theorem d2e:jA Tryz.prog 204=some [.aN]:=by kernel_rfl
@[simp] theorem c4F:dJ Tryz.prog 204=true:=by kernel_rfl
@[simp] theorem c7W:aM Tryz.prog 204 0=some (0,103):=by kernel_rfl
@[simp] theorem d4l:eY Tryz.prog 236=some 40:=by kernel_rfl
@[simp] theorem d2f:Tryz.prog.cellsOf 239=4:=by kernel_rfl
@[simp] theorem d2g:jA Tryz.prog 239=some [.int .i64 0,.int .i64 0,.int .i64 0,.str []]:=by kernel_rfl
@[simp] theorem c4G:dJ Tryz.prog 239=true:=by kernel_rfl
@[simp] theorem c7X:aM Tryz.prog 239 0=some (0,3):=by kernel_rfl
@[simp] theorem c7Y:aM Tryz.prog 239 1=some (1,3):=by kernel_rfl
@[simp] theorem c7Z:aM Tryz.prog 239 2=some (2,3):=by kernel_rfl
@[simp] theorem c8a:aM Tryz.prog 239 3=some (3,9):=by kernel_rfl
@[simp] theorem d4m:gK Tryz.prog 9=true:=by kernel_rfl
@[simp] theorem d2h:gK Tryz.prog 30=true:=by kernel_rfl
@[simp] theorem d2i:gK Tryz.prog 40=true:=by kernel_rfl
@[simp] theorem d2j:gK Tryz.prog 43=true:=by kernel_rfl
@[simp] theorem d2k:gK Tryz.prog 45=true:=by kernel_rfl
@[simp] theorem d2l:gK Tryz.prog 70=true:=by kernel_rfl
@[simp] theorem d2m:gK Tryz.prog 78=true:=by kernel_rfl
@[simp] theorem d2n:gK Tryz.prog 82=true:=by kernel_rfl
@[simp] theorem d2o:gK Tryz.prog 91=true:=by kernel_rfl
@[simp] theorem d2p:gK Tryz.prog 96=true:=by kernel_rfl
@[simp] theorem c9H:gK Tryz.prog 111=true:=by kernel_rfl
@[simp] theorem c9I:gK Tryz.prog 114=true:=by kernel_rfl
@[simp] theorem c9J:gK Tryz.prog 118=true:=by kernel_rfl
@[simp] theorem c9K:gK Tryz.prog 135=true:=by kernel_rfl
@[simp] theorem c9L:gK Tryz.prog 147=true:=by kernel_rfl
@[simp] theorem c9M:gK Tryz.prog 148=true:=by kernel_rfl
@[simp] theorem c9N:gK Tryz.prog 151=true:=by kernel_rfl
@[simp] theorem c9O:gK Tryz.prog 161=true:=by kernel_rfl
@[simp] theorem c9P:gK Tryz.prog 163=true:=by kernel_rfl
@[simp] theorem c9Q:gK Tryz.prog 179=true:=by kernel_rfl
@[simp] theorem c9R:gK Tryz.prog 181=true:=by kernel_rfl
end
section
open Go Go.VM
variable {G:GT}
theorem wrap64 {n:Int}(h: -9223372036854775808≤n∧n≤9223372036854775807):IntKind.i64.wrap n=n:=by unfold IntKind.wrap;simp [IntKind.bits,IntKind.signed];omega
theorem bP {i:Nat}(h:i<9223372036854775807):IntKind.i64.wrap ((i:Int)+1)=((i+1:Nat):Int):=by rw [wrap64 (by omega)];simp
def xJ (c:Int):Bool:=decide (97≤c)&&decide (c≤122)
def c2g (c:Int):Bool:=decide (65≤c)&&decide (c≤90)
def b9a (c:Int):Bool:=decide (48≤c)&&decide (c≤57)
def anB (c:Int):Bool:=xJ c||c2g c||b9a c
def wdB (c:Int):Bool:=xJ c||b9a c||c==95
def sizedB (s:List UInt8):Bool:=decide (1≤s.length)&&decide (s.length≤24)
def vD (p:Int→Bool)(s:List UInt8):Bool:=s.all fun c=>p c.toNat
theorem qP {p:Int→Bool}{s:List UInt8}{i:Nat}{b:Bool}(he:b=vD p (s.drop i))(hlt:i<s.length)(hp:p s[i].toNat=true):b=vD p (s.drop (i+1)):=by unfold vD at he;rw [he,d8Q hlt];simp only [List.all_cons,hp,Bool.true_and,vD]
theorem a2T {p:Int→Bool}{s:List UInt8}{i:Nat}{b:Bool}(he:b=vD p (s.drop i))(hlt:i<s.length)(hp:p s[i].toNat=false):b=false:=by unfold vD at he;rw [he,d8Q hlt];simp only [List.all_cons,hp,Bool.false_and]
theorem a9m {p:Int→Bool}{s:List UInt8}{i:Nat}{b:Bool}(he:b=vD p (s.drop i))(hlt: ¬i<s.length):b=true:=by
 rw [he,List.drop_of_length_le (by omega)]
 rfl
theorem c4I {α:Type}{f:α→Bool}{l:List α}{i:Nat}{b:Bool}(he:b=(l.drop i).any f)(hlt:i<l.length)(hp:f l[i]=false):b=(l.drop (i+1)).any f:=by rw [he,d8Q hlt];simp only [List.any_cons,hp,Bool.false_or]
theorem c4J {α:Type}{f:α→Bool}{l:List α}{i:Nat}{b:Bool}(he:b=(l.drop i).any f)(hlt:i<l.length)(hp:f l[i]=true):b=true:=by rw [he,d8Q hlt];simp only [List.any_cons,hp,Bool.true_or]
theorem c9S {α:Type}{f:α→Bool}{l:List α}{i:Nat}{b:Bool}(he:b=(l.drop i).any f)(hlt: ¬i<l.length):b=false:=by
 rw [he,List.drop_of_length_le (by omega)]
 rfl
theorem yM:VM.Enters Tryz.prog 266:=VM.Enters.mk Tryz.func266 rfl
theorem a1V:VM.Enters Tryz.prog 267:=VM.Enters.mk Tryz.func267 rfl
theorem a3F:VM.Enters Tryz.prog 268:=VM.Enters.mk Tryz.func268 rfl
theorem a1W:VM.Enters Tryz.prog 252:=VM.Enters.mk Tryz.func252 rfl
theorem xK:VM.Enters Tryz.prog 253:=VM.Enters.mk Tryz.func253 rfl
theorem b9b:VM.Enters Tryz.prog 254:=VM.Enters.mk Tryz.func254 rfl
theorem a0D (c:Int):CS Tryz.prog G 266 [.int .u8 c] (.d (.bool (xJ c))) none:=by
 refine CS.bH Tryz.func266 rfl Tryz.ntmps266 rfl ?_
 by_cases h:97≤c<;>simp [xJ,h]
theorem a4o (c:Int):CS Tryz.prog G 267 [.int .u8 c] (.d (.bool (b9a c))) none:=by
 refine CS.bH Tryz.func267 rfl Tryz.ntmps267 rfl ?_
 by_cases h:48≤c<;>simp [b9a,h]
theorem a5g (c:Int):CS Tryz.prog G 268 [.int .u8 c] (.d (.bool (c2g c))) none:=by
 refine CS.bH Tryz.func268 rfl Tryz.ntmps268 rfl ?_
 by_cases h:65≤c<;>simp [c2g,h]
theorem a4p (s:List UInt8):CS Tryz.prog G 252 [.str s] (.d (.bool (sizedB s))) none:=by
 refine CS.bH Tryz.func252 rfl Tryz.ntmps252 rfl ?_
 by_cases h:1≤s.length<;>simp [sizedB,h]
theorem yN (s:List UInt8)(hs:s.length≤1000000):CS Tryz.prog G 253 [.str s] (.d (.bool (vD anB s))) none:=by
 refine CS.bH Tryz.func253 rfl Tryz.ntmps253 rfl ?_
 simp;refine SW.kJ (ι:={ i:Nat // i≤s.length∧vD anB s=vD anB (s.drop i) }) (fun i=>[(3,.d (.int .i64 i.1))]) (fun _=>[]) (fun _=>[]) (fun i=>s.length-i.1) ⟨0,by simp⟩ (by simp) ?_
 rintro ⟨i,hi,he⟩;by_cases hlt:i<s.length
 ·simp [hlt];refine aI.mk yM (a0D _) ?_
  have hw:=bP (show i<9223372036854775807 by omega);cases h1:xJ s[i].toNat
  ·simp [hlt];refine aI.mk a3F (a5g _) ?_
   cases h2:c2g s[i].toNat
   ·simp [hlt];refine aI.mk a1V (a4o _) ?_
    cases h3:b9a s[i].toNat
    ·simp [hlt];exact a2T he hlt (by simp [anB,h1,h2,h3])
    ·simp [hlt];exact bR.mk ⟨i+1,hlt,qP he hlt (by simp [anB,h3])⟩ (by simp [hw]) (by simp;omega)
   ·simp [hlt];exact bR.mk ⟨i+1,hlt,qP he hlt (by simp [anB,h2])⟩ (by simp [hw]) (by simp;omega)
  ·simp [hlt];exact bR.mk ⟨i+1,hlt,qP he hlt (by simp [anB,h1])⟩ (by simp [hw]) (by simp;omega)
 ·simp [hlt];exact a9m he hlt
def a5h (s:List UInt8):Bool:=vD wdB s&&(match s with|[]=>true|c::_=>xJ c.toNat)
theorem c2h (s:List UInt8)(hs:s.length≤1000000):CS Tryz.prog G 254 [.str s] (.d (.bool (a5h s))) none:=by
 refine CS.bH Tryz.func254 rfl Tryz.ntmps254 rfl ?_
 simp;refine SW.kJ (ι:={ i:Nat // i≤s.length∧(0<i→vD wdB s=vD wdB (s.drop i)∧a5h s=vD wdB s) }) (fun i=>[(3,.d (.int .i64 i.1))]) (fun _=>[]) (fun _=>[]) (fun i=>s.length-i.1) ⟨0,by simp⟩ (by simp) ?_
 rintro ⟨i,hi,he⟩;by_cases hlt:i<s.length
 ·have hnx:wdB s[i].toNat=true→(i=0→xJ s[i].toNat=true)→(0<i+1→vD wdB s=vD wdB (s.drop (i+1))∧a5h s=vD wdB s):=fun hp h0 _=>by
    rcases Nat.eq_zero_or_pos i with hz|hz
    ·subst hz;refine ⟨qP (i:=0) rfl hlt hp,?_⟩;cases s with
     |nil=>rfl
     |cons c s=>have:=h0 rfl;simp at this;simp [a5h,this]
    ·exact ⟨qP (he hz).1 hlt hp,(he hz).2⟩
  have hw:=bP (show i<9223372036854775807 by omega);have hst:wdB s[i].toNat=false→a5h s=false:=fun hp=>by
   rcases Nat.eq_zero_or_pos i with hz|hz
   ·subst hz;have:=a2T (b:=vD wdB s) (i:=0) rfl hlt hp;simp [a5h,this]
   ·rw [(he hz).2];exact a2T (he hz).1 hlt hp
  simp [hlt];refine aI.mk yM (a0D _) ?_
  cases h1:xJ s[i].toNat
  ·rcases Nat.eq_zero_or_pos i with hz|hz
   ·subst hz;simp [hlt];cases s with
    |nil=>simp at hlt
    |cons c s=>simp at h1;simp [a5h,h1]
   ·have hz': ¬i=0:=by omega
    simp [hlt,hz'];refine aI.mk a1V (a4o _) ?_
    cases h3:b9a s[i].toNat
    ·by_cases h4:s[i].toNat=95
     ·simp [hlt,h4];exact bR.mk ⟨i+1,hlt,hnx (by simp [wdB,h4]) (fun h=>absurd h hz')⟩ (by simp [hw]) (by simp;omega)
     ·have h5: ¬((s[i].toNat:Int)=95):=by omega
      simp [hlt,h4,h5];exact hst (by simp [wdB,h1,h3,h5])
    ·simp [hlt];exact bR.mk ⟨i+1,hlt,hnx (by simp [wdB,h3]) (fun h=>absurd h hz')⟩ (by simp [hw]) (by simp;omega)
  ·simp [hlt];exact bR.mk ⟨i+1,hlt,hnx (by simp [wdB,h1]) (fun _=>h1)⟩ (by simp [hw]) (by simp;omega)
 ·simp [hlt];rcases Nat.eq_zero_or_pos i with hz|hz
  ·subst hz;have:s=[]:=by simpa using hlt
   subst this
   rfl
  ·rw [(he hz).2];exact a9m (he hz).1 hlt
open Go Go.VM
variable {G:GT}
def kwL:List (List UInt8):=[[97,110,100],[97,115,115,117,109,101],[98,111,111,108],[98,111,117,110,100],[99,97,115,101],[99,101,108,108],[99,108,97,115,115],[100,97,116,97],[100,101,102],[100,105,118],[101,108,115,101],[101,110,100],[102,97,108,115,101],[102,111,114,97,108,108],[102,117,110],[103,101,116],[105,102],[105,110],[105,110,115,116],[105,110,116],[105,110,118,97,114,105,97,110,116],[108,101,116],[109,97,116,99,104],[109,101,97,115,117,114,101],[109,101,116,114,105,99],[109,111,100],[109,117],[110,101,119],[110,111,116],[111,102],[111,114],[113,117,97,108],[114,101,102,108,101,99,116],[115,101,116],[116,104,101,110],[116,114,117,101],[117,115,101],[118],[118,97,108],[116,97,103],[119,104,101,114,101],[119,105,116,104]]
def bA (s:List UInt8):Bool:=kwL.any fun k=>decide (k=s)
def eB:List D:=kwL.map D.str
theorem uL:VM.Enters Tryz.prog 167:=VM.Enters.mk Tryz.func167 rfl
theorem wE (hG:G 1=some eB)(s:List UInt8):CS Tryz.prog G 167 [.str s] (.d (.bool (bA s))) none:=by
 refine CS.bH Tryz.func167 rfl Tryz.ntmps167 rfl ?_
 have hlen:eB.length=42:=rfl;have htake:List.take 42 eB=eB:=by rw [← hlen,List.take_length]
 simp [hG,hlen,htake];refine SW.kJ (ι:={ i:Nat // i≤42∧bA s=(kwL.drop i).any fun k=>decide (k=s) }) (fun i=>[(6,.d (.int .i64 i.1))]) (fun _=>[]) (fun _=>[]) (fun i=>42-i.1) ⟨0,by simp [bA]⟩ (by simp) ?_
 rintro ⟨i,hi,he⟩;by_cases hlt:i<42
 ·have hl:i<kwL.length:=hlt;have hget:eB[i]? =some (.str kwL[i]):=by simp [eB,hl]
  have hget2:eB[i]'(by rw [hlen];exact hlt)= .str kwL[i]:=by simp [eB]
  by_cases hk:kwL[i]=s
  ·simp [hlt,hlen,hget,hget2,hk];exact c4J he hl (by simp [hk])
  ·simp [hlt,hlen,hget,hget2,hk];exact bR.mk ⟨i+1,hlt,c4I he hl (by simp [hk])⟩ (by simp [bP (show i<9223372036854775807 by omega)]) (by simp;omega)
 ·simp [hlt];exact c9S he hlt
def c4K (p:Int→Bool)(s:List UInt8):Bool:=match s with
 |[]=>false
 |c::_=>p c.toNat
theorem a2U {p:Int→Bool}{s:List UInt8}(h:0<s.length):c4K p s=p s[0].toNat:=by
 cases s with
 |nil=>simp at h
 |cons c s=>rfl
def a1X (s:List UInt8):Bool:=sizedB s&&c4K xJ s&& !bA s&&vD wdB s
theorem b9c:VM.Enters Tryz.prog 250:=VM.Enters.mk Tryz.func250 rfl
theorem c2i (hG:G 1=some eB)(s:List UInt8):CS Tryz.prog G 250 [.str s] (.d (.bool (a1X s))) none:=by
 refine CS.bH Tryz.func250 rfl Tryz.ntmps250 rfl ?_
 simp;refine aI.mk a1W (a4p _) ?_
 cases hz:sizedB s
 ·simp [a1X,hz]
 ·have hl:1≤s.length∧s.length≤24:=by simpa [sizedB] using hz
  have h0:0<s.length:=by omega
  simp [h0];refine aI.mk yM (a0D _) ?_
  cases h1:xJ s[0].toNat
  ·simp [a1X,a2U h0,h1]
  ·simp;refine aI.mk uL (wE hG _) ?_
   cases h2:bA s
   ·simp;have hb:a1X s=vD wdB s:=by simp [a1X,hz,a2U h0,h1,h2]
    refine SW.kJ (ι:={ i:Nat // 1≤i∧i≤s.length∧vD wdB s=vD wdB (s.drop i) }) (fun i=>[(3,.d (.int .i64 i.1))]) (fun _=>[]) (fun _=>[]) (fun i=>s.length-i.1) ⟨1,d8T _,hl.1,qP (i:=0) rfl h0 (by simp [wdB,h1])⟩ (by simp) ?_
    rintro ⟨i,hi1,hi,he⟩;by_cases hlt:i<s.length
    ·have hw:=bP (show i<9223372036854775807 by omega);simp [hlt];refine aI.mk yM (a0D _) ?_
     cases h1:xJ s[i].toNat
     ·simp [hlt];refine aI.mk a1V (a4o _) ?_
      cases h3:b9a s[i].toNat
      ·by_cases h4:s[i].toNat=95
       ·simp [hlt,h4];exact bR.mk ⟨i+1,by omega,hlt,qP he hlt (by simp [wdB,h4])⟩ (by simp [hw]) (by simp;omega)
       ·simp [hlt,h4];rw [hb];exact a2T he hlt (by simp [wdB,h1,h3];omega)
      ·simp [hlt];exact bR.mk ⟨i+1,by omega,hlt,qP he hlt (by simp [wdB,h3])⟩ (by simp [hw]) (by simp;omega)
     ·simp [hlt];exact bR.mk ⟨i+1,by omega,hlt,qP he hlt (by simp [wdB,h1])⟩ (by simp [hw]) (by simp;omega)
    ·simp [hlt];rw [hb];exact a9m he hlt
   ·simp [a1X,h2]
theorem b6s:VM.Enters Tryz.prog 251:=VM.Enters.mk Tryz.func251 rfl
def tT (s:List UInt8):Bool:=sizedB s&&c4K c2g s&&vD anB s&& !decide (s=[73,110,116])&& !decide (s=[66,111,111,108])&& !decide (s=[67,101,108,108])&& !decide (s=[70,117,110])
theorem b9d (s:List UInt8):CS Tryz.prog G 251 [.str s] (.d (.bool (tT s))) none:=by
 refine CS.bH Tryz.func251 rfl Tryz.ntmps251 rfl ?_
 simp;refine aI.mk a1W (a4p _) ?_
 cases hz:sizedB s
 ·simp [tT,hz]
 ·have hl:1≤s.length∧s.length≤24:=by simpa [sizedB] using hz
  have h0:0<s.length:=by omega
  simp [h0];refine aI.mk a3F (a5g _) ?_
  cases h1:c2g s[0].toNat
  ·simp [tT,a2U h0,h1]
  ·simp;refine aI.mk xK (yN _ (by omega)) ?_
   cases h2:vD anB s
   ·simp [tT,h2]
   ·by_cases e1:s=[73,110,116]
    ·simp [tT,e1]
    by_cases e2:s=[66,111,111,108]
    ·simp [tT,e2]
    by_cases e3:s=[67,101,108,108]
    ·simp [tT,e3]
    simp [tT,hz,a2U h0,h1,h2,e1,e2,e3]
def eT:List UInt8→List UInt8×List UInt8×Bool
 |[]=>([],[],false)
 |c::r=>if c.toNat=46 then ([],r,true) else (c::(eT r).1,(eT r).2)
theorem b2B:VM.Enters Tryz.prog 249:=VM.Enters.mk Tryz.func249 rfl
theorem c0L:∀(s:List UInt8) (i:Nat),(∀j (h:j<s.length),j<i→s[j].toNat≠46)→i≤s.length→eT s=(s.take i++(eT (s.drop i)).1,(eT (s.drop i)).2)
 |s,0,_,_=>by simp
 |[],i+1,_,h=>by simp at h
 |c::r,i+1,hj,h=>by have h0:=hj 0 (by simp) (by omega);simp at h0 h;have ih:=c0L r i (fun j h hji=>by have:=hj (j+1) (by simp;omega) (by omega);simpa using this) h;simp [eT,h0,ih]
theorem b6t (s:List UInt8)(hs:s.length≤1000000):CS Tryz.prog G 249 [.str s] (.cT [.str (eT s).1,.str (eT s).2.1,.bool (eT s).2.2]) none:=by
 refine CS.bH Tryz.func249 rfl Tryz.ntmps249 rfl ?_
 simp;refine SW.kJ (ι:={ i:Nat // i≤s.length∧∀j (h:j<s.length),j<i→s[j].toNat≠46 }) (fun i=>[(5,.d (.int .i64 i.1))]) (fun _=>[]) (fun _=>[]) (fun i=>s.length-i.1) ⟨0,by simp⟩ (by simp) ?_
 rintro ⟨i,hi,he⟩;have hcut:=c0L s i he hi;by_cases hlt:i<s.length
 ·by_cases h4:s[i].toNat=46
  ·have hw:IntKind.i64.wrap ((i:Int)+1)=((i+1:Nat):Int):=bP (by omega);rw [d8Q hlt] at hcut;simp only [eT,h4,if_true] at hcut;have h1:i+1≤s.length:=hlt;simp [hlt,h4,hcut,hw,hi,h1];exact mK.mk (by kernel_rfl)
  ·simp [hlt,h4];refine bR.mk ⟨i+1,hlt,fun j h hj=>?_⟩ (by simp [bP (show i<9223372036854775807 by omega)]) (by simp;omega);by_cases hji:j=i
   ·subst hji;exact h4
   ·exact he j h (by omega)
 ·have:i=s.length:=by omega
  subst this;rw [List.drop_length] at hcut;simp [eT] at hcut;simp [hlt,hcut]
open Go Go.VM
variable {G:GT}
def tU:List UInt8→List (List UInt8)
 |[]=>[[]]
 |c::r=>if c.toNat=46 then []::tU r else match tU r with
  |p::ps=>(c::p)::ps
  |[]=>[[c]]
theorem a0E:∀s,tU s=(eT s).1::(if (eT s).2.2=true then tU (eT s).2.1 else [])
 |[]=>rfl
 |c::r=>by
  by_cases hc:c.toNat=46
  ·simp [tU,eT,hc]
  ·simp only [tU,eT,hc,if_false];rw [a0E r]
theorem c0M:∀s,(eT s).2.2=true→(eT s).2.1.length<s.length
 |[],h=>by simp [eT] at h
 |c::r,h=>by
  unfold eT at h ⊢;split
  ·simp
  ·rename_i hc;simp [hc] at h;have:=c0M r h;simp;omega
theorem b6u:∀s,(eT s).1.length≤s.length
 |[]=>by simp [eT]
 |c::r=>by
  unfold eT;split
  ·simp
  ·simp;exact b6u r
theorem a6q:∀s,(eT s).2.1.length≤s.length
 |[]=>by simp [eT]
 |c::r=>by
  unfold eT;split
  ·simp
  ·simp;have:=a6q r;omega
def zZ (p:List UInt8):Bool:=sizedB p&&(vD anB p||a5h p)
def a0a (s:List UInt8):Bool:=decide (s.length≤120)&&(match tU s with
 |[]=>false
 |p::ps=>(a1X p||tT p||(decide (p=[118])&& !ps.isEmpty))&&ps.all zZ)
def a8y (b:Bool):Int:=if b then 0 else 3
theorem c2j (s:List UInt8):a0a s=(decide (s.length≤120)&&((a1X (eT s).1||tT (eT s).1||(decide ((eT s).1=[118])&&(eT s).2.2))&&(if (eT s).2.2=true then (tU (eT s).2.1).all zZ else true))):=by
 unfold a0a;rw [a0E s];cases hm:(eT s).2.2
 ·simp
 ·have:(tU (eT s).2.1).isEmpty=false:=by rw [a0E];rfl
  simp [this]
theorem b9e:VM.Enters Tryz.prog 241:=VM.Enters.mk Tryz.func241 rfl
theorem c2k (hG:G 1=some eB)(s:List UInt8):CS Tryz.prog G 241 [.str s] (.d (.int .i64 (a8y (a0a s)))) none:=by
 refine CS.bH Tryz.func241 rfl Tryz.ntmps241 rfl ?_
 by_cases hl:120<s.length
 ·have: ¬s.length≤120:=by omega
  simp [hl,a0a,this,a8y]
 ·have hl':s.length≤120:=by omega
  simp [hl];refine aI.mk b2B (b6t _ (by omega)) ?_
  simp;refine aI.mk b9c (c2i hG _) ?_
  have hcore:=c2j s;simp only [hl',decide_true,Bool.true_and] at hcore;have hfail:(a1X (eT s).1||tT (eT s).1||(decide ((eT s).1=[118])&&(eT s).2.2))=false→a0a s=false:=fun h=>by rw [hcore,h];rfl
  have hgo:(a1X (eT s).1||tT (eT s).1||(decide ((eT s).1=[118])&&(eT s).2.2))=true→a0a s=if (eT s).2.2=true then (tU (eT s).2.1).all zZ else true:=fun h=>by rw [hcore,h];rfl
  cases h1:a1X (eT s).1;rotate_left;simp
  replace hgo:=hgo (by simp [h1])
  rotate_left;simp;refine aI.mk b6s (b9d _) ?_
  cases h2:tT (eT s).1;rotate_left;simp
  replace hgo:=hgo (by simp [h1,h2])
  rotate_left 2;by_cases h3:(eT s).1=[118];rotate_left
  ·simp [h3];rw [hfail (by rw [h1,h2];simp [h3])]
   rfl
  rotate_left 2;cases h4:(eT s).2.2
  ·simp [h3,h4];rw [hfail (by rw [h1,h2];simp [h3,h4])]
   rfl
  simp [h3,h4]
  replace hgo:=hgo (by rw [h1,h2];simp [h3,h4])
  all_goals
   refine SW.kJ (ι:={ x:List UInt8×Bool // x.1.length≤120∧a0a s=if x.2=true then (tU x.1).all zZ else true }) (fun x=>[(4,.d (.str x.1.1)),(5,.d (.bool x.1.2))]) (fun _=>[]) (fun _=>[]) (fun x=>if x.1.2=true then x.1.1.length+1 else 0) ⟨((eT s).2.1,(eT s).2.2),by have:=a6q s;simp;omega,hgo⟩ (by simp [*]) ?_
   rintro ⟨⟨r,m⟩,hr,he⟩;cases m
   ·simp;rw [he]
    rfl
   ·simp at hr he;simp;refine aI.mk b2B (b6t _ (by omega)) ?_
    have hlen:=b6u r;simp;refine aI.mk a1W (a4p _) ?_
    have hall:a0a s=(zZ (eT r).1&&(if (eT r).2.2=true then (tU (eT r).2.1).all zZ else true)):=by rw [he,a0E r];cases (eT r).2.2<;>simp
    have hnx:zZ (eT r).1=true→a0a s=(if (eT r).2.2=true then (tU (eT r).2.1).all zZ else true):=fun hp=>by rw [hall,hp];rfl
    have hm:(if (eT r).2.2=true then (eT r).2.1.length+1 else 0)<r.length+1:=by
     cases hm:(eT r).2.2
     ·simp
     ·have:=c0M r hm;simp;exact this
    have hr':(eT r).2.1.length≤120:=by have:=a6q r;omega
    have hno:zZ (eT r).1=false→a0a s=false:=fun hp=>by rw [hall,hp];rfl
    cases g1:sizedB (eT r).1
    ·simp;rw [hno (by simp [zZ,g1])]
     rfl
    ·simp;refine aI.mk xK (yN _ (by omega)) ?_
     cases g2:vD anB (eT r).1
     ·simp;refine aI.mk b9b (c2h _ (by omega)) ?_
      cases g3:a5h (eT r).1
      ·simp;rw [hno (by simp [zZ,g1,g2,g3])]
       rfl
      ·simp;exact bR.mk ⟨((eT r).2.1,(eT r).2.2),hr',hnx (by simp [zZ,g1,g3])⟩ (by simp) (by simpa using hm)
     ·simp;exact bR.mk ⟨((eT r).2.1,(eT r).2.2),hr',hnx (by simp [zZ,g1,g2])⟩ (by simp) (by simpa using hm)
open Go Go.VM
variable {G:GT}
def strs (l:List (List UInt8)):List (List D):=l.map fun s=>[.str s]
theorem b6v (l:List (List UInt8)):(strs l).length=l.length:=by simp [strs]
theorem c2l {l:List (List UInt8)}{i:Nat}(h:i<(strs l).length):(strs l)[i]=[.str (l[i]'(by rw [← b6v l];exact h))]:=by simp [strs]
theorem c4L (l:List (List UInt8)):(∀x,x∈strs l→x.length=1)=True:=by simp [strs]
theorem c4M (l:List (List UInt8))(s:List UInt8):strs (l++[s])=strs l++[[.str s]]:=by simp [strs]
attribute [simp] b6v c2l c4L c4M
theorem b6w {l:List (List UInt8)}{i:Nat}(h:i<l.length):(strs l)[i]? =some [.str l[i]]:=by simp [strs,h]
def c4N (s:List UInt8):List (List UInt8)→Nat→Int
 |[],_=> -1
 |k::r,i=>if k=s then i else c4N s r (i+1)
end
end Go.Proofs.YtjpodcmhcenjjaaGreatDoor
section
namespace Go.VM
open Go Go.RowKit Go.ChangeShapes Go.WideShapes
mutual
def flat {H:Type}:DataW H→List D
 | .lit (.int k n)=>[.int k n]
 | .lit (.bool b)=>[.bool b]
 | .lit (.string s)=>[.str s]
 | .nil=>[.sl []]
 | .slice es _=>[.sl (vE es)]
 | .agg ps=>sU ps
 |_=>[]
def vE {H:Type}:List (DataW H)→List (List D)
 |[]=>[]
 |d::r=>flat d::vE r
def sU {H:Type}:List (DataW H)→List D
 |[]=>[]
 |d::r=>flat d++sU r
end
theorem a7t {H:Type}:∀l:List (DataW H),vE l=l.map flat
 |[]=>by simp [vE]
 |d::r=>by simp [vE,a7t r]
theorem a9n {H:Type}:∀l:List (DataW H),sU l=(l.map flat).flatten
 |[]=>by simp [sU]
 |d::r=>by simp [sU,a9n r]
inductive yO (P:Program):TypeId→List D→Prop
 |bool {t:TypeId} {b:Bool}:P.underlying t=some .bool→yO P t [.bool b]
 |int {t:TypeId} {k:IntKind} {n:Int}:P.underlying t=some (.int k)→(Lit.int k n).wf=true→yO P t [.int k n]
 |str {t:TypeId} {s:List UInt8}:P.underlying t=some .string→s.length≤maxLen→yO P t [.str s]
 |sl {t e:TypeId} {es:List (List D)}:P.underlying t=some (.slice e)→es.length≤maxLen→(∀x∈es,yO P e x)→yO P t [.sl es]
 |struct {t:TypeId} {fs:Array Field} {ds:List D}:P.underlying t=some (.struct fs)→ds.length=P.cellsOf t→(∀f∈fs.toList,yO P f.type ((ds.drop f.offset).take (P.cellsOf f.type)))→yO P t ds
 |array {t e:TypeId} {n:Nat} {ds:List D}:P.underlying t=some (.array n e)→ds.length=P.cellsOf t→(∀i,i<n→yO P e ((ds.drop (i*P.cellsOf e)).take (P.cellsOf e)))→yO P t ds
def yP (P:Program)(L:List TypeId):Bool:=L.all fun t=>decide (t<P.types.size)&&match P.underlying t with
 |some .bool|some (.int _)|some .string=>true
 |some (.slice e)=>L.contains e&&decide (0<P.cellsOf e)
 |some (.struct fs)=>fs.toList.all fun f=>L.contains f.type
 |some (.array _ e)=>L.contains e
 |_=>false
theorem b6x {w:World}{a:Addr}{m:Nat}{v:Value}(h:w.cell? (a.add m)=some v):w.cell? ⟨a.block,a.off+m,none⟩=some v:=by
 obtain ⟨b,o,sp⟩:=a;by_cases hm:m=0
 ·subst hm;simp only [Addr.add,if_true] at h;unfold World.cell? at h ⊢;simp only at h ⊢;cases hb:w.heap[b]? with
  |none=>rw [hb] at h;cases h
  |some o'=>
   rw [hb] at h;cases o' with
   |cells c _ _=>
    simp only at h ⊢;split at h
    ·cases h
    ·simpa using h
   |_=>cases h
 ·simpa [Addr.add,hm] using h
theorem c2m {w:World}{a:Addr}{v:Value}(h:w.cell? a=some v):a.spot=none:=by
 unfold World.cell? at h;split at h
 ·split at h
  ·cases h
  ·rename_i hs;simpa using hs
 ·cases h
theorem c0N {w:World}{a:Addr}{v:Value}(h:w.cell? a=some v):a.block<w.heap.size:=by
 unfold World.cell? at h;split at h
 ·rename_i hb;exact (d8M.1 hb).1
 ·cases h
theorem qQ {α β:Type}{f:α→Option β}:∀ {l:List α} {r:List β},l.mapM f=some r→∀(i:Nat) (a:α),l[i]? =some a→∃b,r[i]? =some b∧f a=some b
 |[],_,_,i,a,ha=>by simp at ha
 |x::l,r,h,i,a,ha=>by
  rw [List.mapM_cons] at h;obtain ⟨b,hb,h⟩:=d8R.1 h;obtain ⟨bs,hbs,h⟩:=d8R.1 h;cases h;cases i with
  |zero=>simp at ha;subst ha;exact ⟨b,rfl,hb⟩
  |succ i=>exact qQ hbs i a (by simpa using ha)
theorem a1Y {w:World}{base:Nat}{a:Addr}{n:Nat}{cs:List Value}(h:w.cells? base a n=some cs):cs.length=n∧∀j,j<n→w.cell? (a.add j)=some (cs.getD j undef):=by
 unfold World.cells? at h;split at h
 ·have hl:=mapM_some_length h;refine ⟨by simpa using hl,fun j hj=>?_⟩;obtain ⟨v,h1,h2⟩:=qQ h j j (by simp [hj]);simpa [List.getD,h1] using h2
 ·cases h
theorem a5i {α:Type}:∀(ls:List (List α)) (j:Nat) (l:List α),ls[j]? =some l→(ls.flatten.drop ((ls.take j).map List.length).sum).take l.length=l
 |[],j,l,h=>by simp at h
 |x::r,0,l,h=>by simp at h;subst h;simp
 |x::r,j+1,l,h=>by simp only [List.getElem?_cons_succ] at h;have:=a5i r j l h;simp only [List.flatten_cons,List.take_succ_cons,List.map_cons,List.sum_cons];rw [← List.drop_drop,List.drop_append_of_le_length (d8T _),List.drop_length,List.nil_append];exact this
theorem a9o {α:Type}:∀(ls:List (List α)) (i:Nat) (x:α),ls.flatten[i]? =some x→∃j l k,ls[j]? =some l∧l[k]? =some x∧i=((ls.take j).map List.length).sum+k
 |[],i,x,h=>by simp at h
 |l::r,i,x,h=>by
  simp only [List.flatten_cons] at h;by_cases hi:i<l.length
  ·rw [d8O hi] at h;exact ⟨0,l,i,rfl,h,by simp⟩
  ·rw [d8L (by omega)] at h;obtain ⟨j,l',k,h1,h2,h3⟩:=a9o r _ x h;exact ⟨j+1,l',k,h1,h2,by rw [List.take_succ_cons,List.map_cons,List.sum_cons];omega⟩
section
variable {P:Program} {H:Type} {enc:TypeId×Value→H} {w:World} {sp:Nat→Bool} {held:Bool} {L:List TypeId}
abbrev RW (w:World):Nat→Nat→Prop:=fun b _=>b<w.heap.size
theorem a9p {parts:List (DataW H×List MemPlace)}{cs:List Value}{offs:List Nat}{szs:List Nat}(hl:offs.length=parts.length)(hl':szs.length=parts.length)(hsum:∀(j:Nat) (o:Nat),offs[j]? =some o→o=(szs.take j).sum)(hcs:cs.length=szs.sum)(h:∀(j:Nat) (y:DataW H×List MemPlace) (o s:Nat),parts[j]? =some y→offs[j]? =some o→szs[j]? =some s→(flat y.1).length=((cs.drop o).take s).length∧∀i d,(flat y.1)[i]? =some d→d.one=true∧V (RW w) w (((cs.drop o).take s).getD i undef) d):
  (sU (parts.map (·.1))).length=cs.length∧(∀(j:Nat) (y:DataW H×List MemPlace) (o s:Nat),parts[j]? =some y→offs[j]? =some o→szs[j]? =some s→((sU (parts.map (·.1))).drop o).take s=flat y.1)∧
   ∀i d,(sU (parts.map (·.1)))[i]? =some d→d.one=true∧V (RW w) w (cs.getD i undef) d:=by
 rw [a9n,List.map_map];have hlen:∀(j:Nat) (y:DataW H×List MemPlace) (o s:Nat),parts[j]? =some y→offs[j]? =some o→szs[j]? =some s→(flat y.1).length=s:=fun j y o s h1 h2 h3=>by
  rw [(h j y o s h1 h2 h3).1,List.length_take,List.length_drop];have:=hsum j o h2;have hle:(szs.take j).sum+s≤szs.sum:=by
   have hj:j<szs.length:=(d8E.1 h3).1;have hs:szs[j]=s:=by rw [d8H hj] at h3;exact Option.some.inj h3
   have e:szs.sum=(szs.take j).sum+(szs.drop j).sum:=by rw [← List.sum_append,List.take_append_drop]
   rw [e,d8Q hj,List.sum_cons,hs];omega
  omega
 have hmap:parts.map (List.length∘flat∘(·.1))=szs:=by
  apply List.ext_getElem?;intro j;rw [d8N];by_cases hj:j<parts.length
  ·have h1:parts[j]? =some parts[j]:=d8H hj
   have h2:offs[j]? =some (offs[j]'(by omega)):=d8H _
   have h3:szs[j]? =some (szs[j]'(by omega)):=d8H _
   rw [h1,h3];simpa using hlen j _ _ _ h1 h2 h3
  ·rw [List.getElem?_eq_none (by omega),List.getElem?_eq_none (by omega)]
   rfl
 have hpre:∀j,(((parts.map (flat∘(·.1))).take j).map List.length).sum=(szs.take j).sum:=fun j=>by rw [← hmap, ← List.map_take, ← List.map_take,List.map_map]
 refine ⟨?_,fun j y o s h1 h2 h3=>?_,fun i d hi=>?_⟩
 ·rw [List.length_flatten,List.map_map,hmap,hcs]
 ·have:=a5i (parts.map (flat∘(·.1))) j (flat y.1) (by rw [d8N,h1];rfl);rw [hpre, ← hsum j o h2,hlen j y o s h1 h2 h3] at this;exact this
 ·obtain ⟨j,l,k,h1,h2,h3⟩:=a9o _ i d hi;rw [hpre] at h3;rw [d8N] at h1;obtain ⟨y,hy,rfl⟩:=d8C.1 h1;have hj:j<parts.length:=(d8E.1 hy).1;have e2:offs[j]? =some (offs[j]'(by omega)):=d8H _
  have e3:szs[j]? =some (szs[j]'(by omega)):=d8H _
  obtain ⟨q1,q2⟩:=h j y _ _ hy e2 e3;obtain ⟨q3,q4⟩:=q2 k d h2;refine ⟨q3,?_⟩;have hk:k<(flat y.1).length:=(d8E.1 h2).1;rw [hlen j y _ _ hy e2 e3] at hk;have:((cs.drop (offs[j]'(by omega))).take (szs[j]'(by omega))).getD k undef=cs.getD i undef:=by simp only [List.getD,List.getElem?_take,hk,if_true,d8W];rw [h3,hsum j _ e2]
  rwa [this] at q4
theorem a6r (sO:laidOutB P=true)(hp:yP P L=true):∀(n:Nat) (t:TypeId) (cs:List Value) (x:DataW H×List MemPlace),L.contains t=true→DataW.trod enc P w 0 sp held n t cs=some x→
  (flat x.1).length=cs.length∧yO P t (flat x.1)∧∀i d,(flat x.1)[i]? =some d→d.one=true∧V (RW w) w (cs.getD i undef) d:=by
 intro n
 induction n with
 |zero=>intro t cs x _ h;simp [DataW.trod] at h
 |succ n ih=>
  intro t cs x hT h;have hrow:=d8G.1 hp t (by simpa using hT);simp only [d8D,decide_eq_true_eq] at hrow;obtain ⟨hts,hrow⟩:=hrow;rw [DataW.trod_step] at h;have one:∀(v:Value) (d:D),d.one=true→V (RW w) w v d→∀i d',([d]:List D)[i]? =some d'→d'.one=true∧V (RW w) w ([v].getD i undef) d':=fun v d h1 h2 i d' hi=>by
   cases i with
   |zero=>simp at hi;subst hi;exact ⟨h1,h2⟩
   |succ i=>simp at hi
  unfold DataW.trodStep at h;split at h
  case h_1 b hu=>simp at h;subst h;exact ⟨rfl,.bool hu,one _ _ rfl (.bool b)⟩
  case h_2 k k' m hu=>
   split at h
   ·rename_i hk;obtain ⟨rfl,hk⟩:=hk;simp at h;subst h;exact ⟨rfl,.int hu hk,one _ _ rfl (.int _ _)⟩
   ·cases h
  case h_3 hu=>rw [hu] at hrow;cases hrow
  case h_4 s hu=>
   split at h
   ·rename_i hs;simp at h;subst h;exact ⟨rfl,.str hu (by simpa using hs),one _ _ rfl (.str s.data.toList)⟩
   ·cases h
  case h_5 hu=>rw [hu] at hrow;cases hrow
  case h_6 hu=>rw [hu] at hrow;cases hrow
  case h_7 e hu=>simp at h;subst h;exact ⟨rfl,.sl hu (by simp) (by simp),one _ _ rfl (.emp none 0)⟩
  case h_8 e a len cap hu=>
   rw [hu] at hrow;simp only [d8D,decide_eq_true_eq] at hrow;obtain ⟨heL,hsz⟩:=hrow;simp only at h;split at h
   ·rename_i hc;obtain ⟨_,hlc,hcm⟩:=hc;simp only [d8C,d8R] at h;obtain ⟨elems,he,rest,_,rfl⟩:=h;have hlen:elems.length=len:=by simpa using mapM_some_length he
    have each:∀(i:Nat) (y:DataW H×List MemPlace),elems[i]? =some y→∃cs',w.cells? 0 (a.add (i*P.cellsOf e)) (P.cellsOf e)=some cs'∧DataW.trod enc P w 0 sp held n e cs'=some y:=fun i y hy=>by
     have hi:i<len:=by have:=(d8E.1 hy).1;omega
     obtain ⟨v,h1,h2⟩:=qQ he i i (by simp [hi]);rw [hy] at h1;cases h1;simpa only [d8R] using h2
    simp only [flat,a7t,List.map_map];refine ⟨rfl,.sl hu (by simp [hlen];omega) (fun z hz=>?_),?_⟩
    ·obtain ⟨y,hy,rfl⟩:=List.mem_map.1 hz;obtain ⟨i,hi⟩:=List.mem_iff_getElem?.1 hy;obtain ⟨cs',h1,h2⟩:=each i y hi;exact (ih e cs' y heL h2).2.1
    ·refine one _ _ rfl ?_
     by_cases h0:len=0
     ·subst h0;have:elems=[]:=List.eq_nil_of_length_eq_zero hlen;subst this;exact .emp _ _
     ·obtain ⟨y0,hy0⟩:∃y,elems[0]? =some y:=⟨elems[0]'(by omega),d8H _⟩
      obtain ⟨cs0,hc0,_⟩:=each 0 y0 hy0;have h00:=(a1Y hc0).2 0 hsz;have hspot:a.spot=none:=by simpa [Addr.add] using c2m h00
      obtain ⟨b,o,sp0⟩:=a;simp only at hspot;subst hspot;have cell:∀(i j:Nat),i<len→j<P.cellsOf e→∃y cs',elems[i]? =some y∧DataW.trod enc P w 0 sp held n e cs'=some y∧cs'.length=P.cellsOf e∧w.cell? ⟨b,o+i*P.cellsOf e+j,none⟩=some (cs'.getD j undef):=fun i j hi hj=>by
       have hy:elems[i]? =some (elems[i]'(by omega)):=d8H _
       obtain ⟨cs',h1,h2⟩:=each i _ hy;obtain ⟨h3,h4⟩:=a1Y h1;refine ⟨_,cs',hy,h2,h3,?_⟩;have h5:=b6x (h4 j hj);have e1:((⟨b,o,none⟩:Addr).add (i*P.cellsOf e)).block=b:=by unfold Addr.add;split<;>rfl
       have e2:((⟨b,o,none⟩:Addr).add (i*P.cellsOf e)).off=o+i*P.cellsOf e:=by
        unfold Addr.add;split
        ·rename_i hz;simp [hz]
        ·rfl
       rw [e1,e2] at h5;exact h5
      have kid:∀(i j:Nat) (e':List D) (d:D),(elems.map (flat∘(·.1)))[i]? =some e'→e'[j]? =some d→d.one=true∧V (RW w) w ((w.cell? ⟨b,o+i*P.cellsOf e+j,none⟩).getD undef) d:=fun i j e' d h1 h2=>by
       rw [d8N] at h1;obtain ⟨y,hy,rfl⟩:=d8C.1 h1;have hi:i<len:=by have:=(d8E.1 hy).1;omega
       obtain ⟨cs',hcs',htr⟩:=each i y hy;obtain ⟨q1,_,q3⟩:=ih e cs' y heL htr;obtain ⟨p1,p2⟩:=q3 j d h2;have hj:j<P.cellsOf e:=by have:=(d8E.1 h2).1;have h3:=(a1Y hcs').1;simp only [Function.comp] at this;omega
       obtain ⟨y',cs2,hy',htr',hl2,hcell⟩:=cell i j hi hj;rw [hy] at hy';cases hy';obtain ⟨h3,h4⟩:=a1Y hcs';have h5:=b6x (h4 j hj);have e1:((⟨b,o,none⟩:Addr).add (i*P.cellsOf e)).block=b:=by unfold Addr.add;split<;>rfl
       have e2:((⟨b,o,none⟩:Addr).add (i*P.cellsOf e)).off=o+i*P.cellsOf e:=by
        unfold Addr.add;split
        ·rename_i hz;simp [hz]
        ·rfl
       rw [e1,e2] at h5;rw [h5];exact ⟨p1,p2⟩
      refine .sl b o len cap (P.cellsOf e) _ (fun i j=>(w.cell? ⟨b,o+i*P.cellsOf e+j,none⟩).getD undef) (by simp [hlen]) hlc hsz (fun x hx=>?_) (fun i j hi hj=>?_) (fun i j e' d h1 h2=>(kid i j e' d h1 h2).1) (fun i j e' d h1 h2=>(kid i j e' d h1 h2).2)
      ·obtain ⟨y,hy,rfl⟩:=List.mem_map.1 hx;obtain ⟨i,hi⟩:=List.mem_iff_getElem?.1 hy;obtain ⟨cs',h1,h2⟩:=each i y hi;simp only [Function.comp];rw [(ih e cs' y heL h2).1,(a1Y h1).1]
      ·obtain ⟨_,_,_,_,_,hcell⟩:=cell i j hi hj;rw [hcell];exact ⟨c0N hcell,rfl⟩
   ·cases h
  case h_9 cs _ _ fs hu=>
   rw [hu] at hrow;simp only at hrow;split at h
   ·rename_i hc;obtain ⟨hk1,hk2,hk3⟩:=kid_struct sO hts hu;simp only [d8C] at h;obtain ⟨xs,hx,rfl⟩:=h;have hlen:xs.length=fs.toList.length:=mapM_some_length hx;obtain ⟨q1,q2,q3⟩:=a9p (w:=w) (parts:=xs) (cs:=cs) (offs:=fs.toList.map (·.offset)) (szs:=fs.toList.map fun f=>P.cellsOf f.type) (by simp [hlen]) (by simp [hlen])
     (fun j o ho=>by rw [d8N] at ho;obtain ⟨f,hf,rfl⟩:=d8C.1 ho;rw [hk3 j f hf,List.map_take]) (by rw [hc,hk2])
     (fun j y o s h1 h2 h3=>by rw [d8N] at h2 h3;obtain ⟨f,hf,rfl⟩:=d8C.1 h2;rw [hf] at h3;simp only [Option.map_some,d8J] at h3;subst h3;obtain ⟨v,p1,p2⟩:=qQ hx j f hf;rw [h1] at p1;cases p1;have:=ih f.type _ _ (d8G.1 hrow f (d8I hf)) p2;exact ⟨this.1,this.2.2⟩)
    simp only [flat];refine ⟨q1,.struct hu (by rw [q1,hc]) (fun f hf=>?_),q3⟩;obtain ⟨j,hj⟩:=List.mem_iff_getElem?.1 hf;obtain ⟨v,p1,p2⟩:=qQ hx j f hj;rw [q2 j v f.offset (P.cellsOf f.type) p1 (by rw [d8N,hj];rfl) (by rw [d8N,hj];rfl)];exact (ih f.type _ _ (d8G.1 hrow f hf) p2).2.1
   ·cases h
  case h_10 cs _ _ m e hu=>
   rw [hu] at hrow;simp only at hrow;split at h
   ·rename_i hc;obtain ⟨_,hk2⟩:=kid_array sO hts hu;simp only [d8C] at h;obtain ⟨xs,hx,rfl⟩:=h;have hlen:xs.length=m:=by simpa using mapM_some_length hx
    have at':∀(j:Nat) (y:DataW H×List MemPlace),xs[j]? =some y→DataW.trod enc P w 0 sp held n e ((cs.drop (j*P.cellsOf e)).take (P.cellsOf e))=some y:=fun j y hy=>by
     have hj:j<m:=by have:=(d8E.1 hy).1;omega
     obtain ⟨v,p1,p2⟩:=qQ hx j j (by simp [hj]);rw [hy] at p1;cases p1;exact p2
    have hsumrep:∀j,j≤m→(((List.replicate m (P.cellsOf e)).take j).sum)=j*P.cellsOf e:=fun j hj=>by rw [List.take_replicate,Nat.min_eq_left hj,List.sum_replicate_nat]
    obtain ⟨q1,q2,q3⟩:=a9p (w:=w) (parts:=xs) (cs:=cs) (offs:=(List.range m).map fun i=>i*P.cellsOf e) (szs:=List.replicate m (P.cellsOf e)) (by simp [hlen]) (by simp [hlen])
     (fun j o ho=>by
      rw [d8N] at ho;obtain ⟨i,hi,rfl⟩:=d8C.1 ho;have hjm:j<m:=by have:=(d8E.1 hi).1;simpa using this
      have:i=j:=by rw [List.getElem?_range hjm] at hi;simpa using hi.symm
      rw [this,hsumrep j (by omega)]) (by rw [hc,hk2,List.sum_replicate_nat])
     (fun j y o s h1 h2 h3=>by
      have hjm:j<m:=by have:=(d8E.1 h1).1;omega
      have ho:o=j*P.cellsOf e:=by rw [d8N,List.getElem?_range hjm] at h2;simpa using h2.symm
      have hs:s=P.cellsOf e:=by rw [List.getElem?_replicate,if_pos hjm] at h3;simpa using h3.symm
      subst ho hs;have:=ih e _ _ hrow (at' j y h1);exact ⟨this.1,this.2.2⟩)
    simp only [flat];refine ⟨q1,.array hu (by rw [q1,hc]) (fun i hi=>?_),q3⟩;have hy:xs[i]? =some (xs[i]'(by omega)):=d8H _
    rw [q2 i _ (i*P.cellsOf e) (P.cellsOf e) hy (by rw [d8N,List.getElem?_range hi];rfl) (by rw [List.getElem?_replicate,if_pos hi])];exact (ih e _ _ hrow (at' i _ hy)).2.1
   ·cases h
  all_goals first|(rename_i hu;rw [hu] at hrow;cases hrow;done)|(cases h;done)
theorem c4O {t:TypeId}{ds:List D}(hu:P.underlying t=some .string)(h:yO P t ds):∃s,ds=[.str s]∧s.length≤maxLen:=by
 cases h with
 |str _ h=>exact ⟨_,rfl,h⟩
 |_ h1=>rw [hu] at h1;cases h1
def a3G (P:Program)(t:TypeId)(d:D):Prop:=
 match P.underlying t with
 |some u=>if mI u then ∃cs,d= .agg cs∧yO P t cs else yO P t [d]
 |none=>False
def a5j (P:Program):List TypeId→List D→Prop
 |[],[]=>True
 |t::ts,d::ds=>a3G P t d∧a5j P ts ds
 |_,_=>False
theorem c2n {t:TypeId}{u:TypeDesc}{d:D}(hu:P.underlying t=some u)(ha:mI u=false)(h:a3G P t d):yO P t [d]:=by unfold a3G at h;rw [hu] at h;simp only [ha] at h;exact h
theorem a6s {t:TypeId}{d:D}(hu:P.underlying t=some .string)(h:a3G P t d):∃s,d= .str s∧s.length≤maxLen:=by obtain ⟨s,h1,h2⟩:=c4O hu (c2n hu rfl h);cases h1;exact ⟨s,rfl,h2⟩
theorem a9q {r:Reach}{b0:Nat}{t:TypeId}{v:Value}{u:TypeDesc}(hu:P.underlying t=some u)(ha:mI u=false)(hp:(match P.underlying t with|some .bool|some (.int _)|some .string|some (.slice _)=>true|_=>false)=true)(hval:Value.okWide P w r b0 t v):v.cells= #[v]:=by
 unfold Value.okWide at hval;rw [hu] at hval hp;cases u<;>simp only [mI] at ha<;>(try cases ha)<;>simp only [] at hp<;>(try cases hp)
 all_goals
  simp only [Cell.okWide,hu] at hval;cases v<;>first|rfl|(simp [Cell.ok,hu] at hval)
theorem c4P {r:Reach}{b0:Nat}(sO:laidOutB P=true)(hp:yP P L=true){t:TypeId}{v:Value}{d:DataW H}{ps:List MemPlace}(hT:L.contains t=true)(hval:Value.okWide P w r b0 t v)(h:DataW.Trod enc P w 0 sp held t v d ps):
  ∃x,a3G P t x∧V (RW w) w v x:=by
 obtain ⟨n,hn⟩:=h;obtain ⟨h1,h2,h3⟩:=a6r sO hp n t _ _ hT hn;have hrow:=d8G.1 hp t (by simpa using hT);simp only [d8D,decide_eq_true_eq] at hrow;obtain ⟨_,hrow⟩:=hrow;cases hu:P.underlying t with
 |none=>rw [hu] at hrow;cases hrow
 |some u=>
  cases ha:mI u with
  |true=>
   have hv:∃cs:Array Value,v= .agg cs:=by
    unfold Value.okWide at hval;rw [hu] at hval;cases u<;>simp only [mI] at ha<;>(try cases ha)
    ·obtain ⟨cs,hv,_⟩:=hval;exact ⟨cs,hv⟩
    ·obtain ⟨cs,hv,_⟩:=hval;exact ⟨cs,hv⟩
   obtain ⟨cs,rfl⟩:=hv;refine ⟨.agg (flat d),by simp only [a3G,hu,ha,if_true];exact ⟨_,rfl,h2⟩,.agg _ _ (by simpa [Value.cells] using h1.symm) (fun i x hx=>(h3 i x hx).1) (fun i x hx=>?_)⟩;have:=(h3 i x hx).2;simpa [Value.cells,List.getD,d8F] using this
  |false=>
   have hc:v.cells= #[v]:=by
    refine a9q hu ha ?_ hval
    rw [hu] at hrow ⊢;cases u<;>simp only [mI] at ha<;>(try cases ha)<;>first|rfl|(simp at hrow)
   rw [hc] at h1 h3;simp at h1;obtain ⟨x,hx⟩:∃x,flat d=[x]:=List.length_eq_one_iff.1 h1;simp only [hx] at h2 h3;refine ⟨x,by simp only [a3G,hu,ha];exact h2,?_⟩;simpa using (h3 0 x rfl).2
theorem a0b {r:Reach}{b0:Nat}(sO:laidOutB P=true)(hp:yP P L=true):∀ {ts:List TypeId} {vs:List Value} {ds:List (DataW H)} {ps:List MemPlace},(∀t∈ts,L.contains t=true)→(∀(j:Nat) t v,ts[j]? =some t→vs[j]? =some v→Value.okWide P w r b0 t v)→
  DataW.TrodAll enc P w 0 sp held ts vs ds ps→∃xs,a5j P ts xs∧vs.length=xs.length∧∀(i:Nat) (d:D),xs[i]? =some d→V (RW w) w (vs.getD i undef) d
 |[],_,_,_,_,_,h=>by obtain ⟨rfl,rfl,rfl⟩:=trodAll_nil h;exact ⟨[],trivial,rfl,by simp⟩
 |t::ts,_,_,_,hT,hv,h=>by
  obtain ⟨v,vs1,d,ds1,a,b,rfl,rfl,rfl,h1,h2⟩:=trodAll_cons h;obtain ⟨x,q1,q2⟩:=c4P sO hp (hT t (.head _)) (hv 0 t v rfl rfl) h1;obtain ⟨xs,q3,q4,q5⟩:=a0b sO hp (fun t ht=>hT t (.tail _ ht)) (fun j t v a b=>hv (j+1) t v a b) h2;refine ⟨x::xs,⟨q1,q3⟩,by simp [q4],fun i d hi=>?_⟩;cases i with
  |zero=>simp at hi;subst hi;simpa using q2
  |succ i=>simp at hi;simpa using q5 i d hi
theorem a3H {w':World}{base:Nat}:∀ {ts:List TypeId} {vs:List Value} {ds:List (DataW H)} {ps:List MemPlace},DataW.TrodAll enc P w base sp held ts vs ds ps→(∀p∈ps,w.sameAt w' p)→DataW.TrodAll enc P w' base sp held ts vs ds ps
 |[],[],[],_,h,_=>h
 |_::_,_::_,_::_,_,⟨p,q,⟨n,hn⟩,h2,e⟩,hs=>⟨p,q,⟨n,DataW.trod_carry n _ _ _ hn fun x hx=>hs x (by rw [e];exact List.mem_append_left _ hx)⟩,a3H h2 fun x hx=>hs x (by rw [e];exact List.mem_append_right _ hx),e⟩
theorem a7u {base:Nat}:∀ {ts:List TypeId} {vs:List Value} {ds:List (DataW H)} {ps:List MemPlace},DataW.TrodAll enc P w base sp held ts vs ds ps→ds.length=ts.length
 |[],[],[],_,_=>rfl
 |_::_,_::_,_::_,_,⟨_,_,_,h,_⟩=>by simp [a7u h]
theorem c2o {f:Func}{s:ChangeSpec}{apart fresh handsOn again:Bool}{W W':World}{args:Array Value}{v:Value}{ds gs:List (DataW H)}{before:List MemPlace}(hW:DataW.Whole enc P f.params.toList s.vars apart W args.toList ds gs before)(hst:Below W.heap.size W W')(hres:∀(b:Nat) (sp:Nat→Bool) (hd:Bool),DataW.TrodAll enc P W' b sp hd f.resultTypes.toList (v.resultList f.resultTypes.size) (s.fn H (ds++gs)).results [])(hargs:∀sp:Nat→Bool,(∀p∈before,sp p.block=true)→DataW.TrodAll enc P W' 0 sp true f.params.toList args.toList (s.fn H (ds++gs)).args before)(hvars:∀sp:Nat→Bool,(∀p∈before,sp p.block=true)→DataW.TrodVars enc P W' sp s.vars (s.fn H (ds++gs)).vars [])(hok:∀(j:Nat) (t:TypeId) (r:Value),f.resultTypes[j]? =some t→(v.resultList f.resultTypes.size)[j]? =some r→Value.okWide P W' .any 0 t r):
  s.post enc P f apart fresh handsOn again W args v W':=by
 have hlt:=hW.lt;have hold:∀p∈before,(fun b=>decide (b<W.heap.size)) p.block=true:=fun p hp=>by simpa using hlt p hp
 refine ⟨ds,gs,before,[],before,[],hW,hres _ _ _,hargs _ hold,hvars _ hold,World.keptBut_mono (fun p hp=>⟨hp,?_⟩) (hst.frame (· ∈before)),fun _=>?_⟩
 ·exact Or.inr (by simpa using hp)
 ·obtain ⟨_,_,_,_,_,hz,hn⟩:=hW;refine ⟨hok,_,_,([]++before)++[],⟨[]++before,[],trodAll_append (hargs _ (fun _ _=>rfl)) (hres _ _ _),hvars _ (fun _ _=>rfl),rfl,?_,?_⟩,?_⟩
  ·intro b off hp;have hp':MemPlace.cell b off∈before:=by simpa using hp
   rw [hst.frozen (hlt _ hp')];exact hz b off hp'
  ·intro ha;simpa using hn ha
  ·intro p hp _;simpa using hp
theorem a5k {W:World}:∀ {laid:List (String×DataW Unit)} {ps:List MemPlace},DataW.LaidVars P W laid ps→∀(n:String) (d:DataW Unit),(n,d)∈laid→
  ∃g t cs fuel p,P.globalNamed n=some g∧(P.globals[g]?).map (·.type)=some t∧W.var? P n=some cs∧DataW.trod (fun _=>()) P W 0 (fun _=>true) false fuel t cs.toList=some (d,p)
 |[],_,_,n,d,hm=>by cases hm
 |(n',d')::r,_,⟨g,t,cs,fuel,p,q,h1,h2,h3,h4,h5,_⟩,n,d,hm=>by
  rcases List.mem_cons.1 hm with he|hm
  ·cases he;exact ⟨g,t,cs,fuel,p,h1,h2,h3,h4⟩
  ·exact a5k h5 n d hm
theorem laidMetH_plain {laid:List (String×DataW Unit)}{W:World}(hh:(laid.filter fun x=>x.2.handleName?.isSome).isEmpty=true)(h:laidMetH P laid W):laidMet P laid W:=by unfold laidMetH at h;rw [List.isEmpty_iff.1 hh] at h;exact h
theorem b6y {laid:List (String×DataW Unit)}{W:World}(hh:(laid.filter fun x=>x.2.handleName?.isSome).isEmpty=true)(h:laidMet P laid W):laidMetH P laid W:=by unfold laidMetH;rw [List.isEmpty_iff.1 hh];exact h
theorem b6z {laid:List (String×DataW Unit)}{W:World}(sO:laidOutB P=true)(hp:yP P L=true)(hh:(laid.filter fun x=>x.2.handleName?.isSome).isEmpty=true)(h:laidMetH P laid W){n:String}{d:DataW Unit}{g:Nat}{t:TypeId}(hm:(n,d)∈laid)(hg:P.globalNamed n=some g)(ht:(P.globals[g]?).map (·.type)=some t)(hL:L.contains t=true):
  Run (RW W) W g 0 (flat d)∧g<W.heap.size∧∃arr T fr,W.heap[g]? =some (.cells arr T fr)∧arr.size=(flat d).length:=by
 obtain ⟨ps,hl,_⟩:=laidMetH_plain hh h;obtain ⟨g',t',cs,fuel,p,h1,h2,h3,h4⟩:=a5k hl n d hm;rw [hg] at h1;cases h1;rw [ht] at h2;cases h2;obtain ⟨q1,_,q3⟩:=a6r sO hp fuel t _ _ hL h4;simp only [Array.length_toList] at q1;have hblk:∃T fr,W.heap[g]? =some (.cells cs T fr):=by
  unfold World.var? at h3;rw [hg] at h3;simp only [Option.bind_some] at h3;split at h3
  ·rename_i T fr hb;cases h3;exact ⟨T,fr,hb⟩
  ·cases h3
 obtain ⟨T,fr,hb⟩:=hblk;refine ⟨fun j x hj=>?_,(d8M.1 hb).1,cs,T,fr,hb,q1.symm⟩;obtain ⟨p1,p2⟩:=q3 j x hj;have hjl:j<cs.size:=by have:=(d8E.1 hj).1;rw [q1] at this;exact this
 have hcell:W.cell? ⟨g,0+j,none⟩=some (cs[j]'hjl):=by unfold World.cell?;simp only [hb];simp [hjl]
 refine ⟨p1,c0N hcell,_,hcell,?_⟩;have:cs.toList.getD j undef=cs[j]:=by simp [List.getD,hjl]
 rwa [this] at p2
end
end Go.VM
end
section
section
namespace Go.VM
open Go Go.RowKit Go.Sort
section
variable {P:Program} {G:GT}
theorem CS.c0O {f:FuncId}{ds:List D}{r:D}(h:∀(w:World) (R:Nat→Nat→Prop) (args:Array Value),a3q G (vL w.heap.size) R w→(∀b o,R b o→b<w.heap.size)→args.size=ds.length→(∀(i:Nat) (d:D),ds[i]? =some d→V R w (args.getD i undef) d)→
  Calls P f args w fun e w'=>∃v,e= .returned v∧V R w' v r∧Below w.heap.size w w'):CS P G f ds (.d r) none:=fun w R args hg hR hl hv=>
 (h w R args hg hR hl hv).mono fun e w' ⟨v,he,hr,hb⟩=>⟨v,R,he,fun _=> .d _ _ hr,⟨.c3U hb,fun _ _ h=>h,fun _ _ h h'=>absurd h h',fun b o hbo=>hb.cell (hR b o hbo)⟩,fun b o hbo=>Nat.lt_of_lt_of_le (hR b o hbo) hb.size,fun _ he=>by cases he⟩
theorem c9T {f:FuncId}{xs:List (List UInt8)}{sep:List UInt8}(h0:∀(a:Option Addr) (c:Nat) (sep:ByteArray) (w:World),Calls P f #[.slice a 0 c,.string sep] w fun e w'=>e= .returned (.string ⟨#[]⟩)∧w'=w)(h1:∀(bk o c:Nat) (xs:List ByteArray) (sep:ByteArray) (w:World),(∀(j:Nat) x,xs[j]? =some x→w.cell? ⟨bk,o+j,none⟩=some (.string x))→bk<w.heap.size→xs.length≤140737488355328→xs.length≤c→(Lib.join (xs.map (·.data.toList)) sep.data.toList).length≤140737488355328→
   Calls P f #[.slice (some ⟨bk,o,none⟩) xs.length c,.string sep] w fun e w'=>e= .returned (.string ⟨(Lib.join (xs.map (·.data.toList)) sep.data.toList).toArray⟩)∧Below w.heap.size w w')(hl:xs.length≤140737488355328)(hj:(Lib.join xs sep).length≤140737488355328):CS P G f [.sl (xs.map fun s=>[.str s]),.str sep] (.d (.str (Lib.join xs sep))) none:=by
 refine CS.c0O fun w R args hg hR hs hv=>?_
 have ha:args= #[args.getD 0 undef,args.getD 1 undef]:=by
  obtain ⟨l⟩:=args
  match l,hs with
  |[a,b],_=>rfl
 have e1:=(hv 1 _ rfl).mJ;have e0:=hv 0 _ rfl;have nix:∀a c,xs=[]→args= #[.slice a 0 c,.string ⟨sep.toArray⟩]→Calls P f args w fun e w'=>∃v,e= .returned v∧V R w' v (.str (Lib.join xs sep))∧Below w.heap.size w w':=fun a c hx ha'=>by rw [ha',hx,Lib.join_nil];exact (h0 a c _ w).mono fun e w' ⟨he,hw⟩=>⟨_,he,.str [],hw▸Below.refl _ _⟩
 generalize args.getD 0 undef=v0 at *;rw [e1] at ha;generalize hes:(xs.map fun s=>[D.str s])=es0 at e0;cases e0 with
 |emp ao cap=>exact nix ao cap (by simpa using hes) ha
 |sl b o n cap size es g q1 q2 q3 q4 q5 q6 q7=>
  subst hes;by_cases hx:xs=[]
  ·have:n=0:=by rw [q1,hx];rfl
   subst this;exact nix _ cap hx ha
  ·have hn:n=xs.length:=by rw [q1];simp
   have hsz:size=1:=by
    cases xs with
    |nil=>exact absurd rfl hx
    |cons x r=>exact (q4 [.str x] (by simp)).symm
   subst hsz;have hc:∀(j:Nat) (x:List UInt8),xs[j]? =some x→R b (o+j)∧w.cell? ⟨b,o+j,none⟩=some (.string ⟨x.toArray⟩):=fun j x hj=>by
    have hjl:j<n:=by rw [hn];exact (d8E.1 hj).1
    obtain ⟨r1,r2⟩:=q5 j 0 hjl (by omega);have:=q7 j 0 [.str x] (.str x) (by rw [d8N,hj];rfl) rfl;simp only [Nat.mul_one,Nat.add_zero] at r1 r2;rw [this.mJ] at r2;exact ⟨r1,r2⟩
   have hb:b<w.heap.size:=by
    cases xs with
    |nil=>exact absurd rfl hx
    |cons x r=>exact hR b _ (hc 0 x rfl).1
   have key:=h1 b o cap (xs.map fun s=>⟨s.toArray⟩) ⟨sep.toArray⟩ w (fun j x hj=>by rw [d8N] at hj;obtain ⟨y,hy,rfl⟩:=d8C.1 hj;exact (hc j y hy).2) hb (by simpa using hl) (by simp;omega) (by simpa [List.map_map,Function.comp_def] using hj)
   simp only [List.length_map,List.map_map,Function.comp_def] at key;rw [ha,hn];have hid:List.map (fun x:List UInt8=>x) xs=xs:=by simp
   simp only [hid] at key;exact key.mono fun e w' ⟨he,hw⟩=>⟨_,he,.str _,hw⟩
end
end Go.VM
end
section
namespace Go.VM
open Go Go.RowKit
section
variable {P:Program} {G:GT} {st:St} {base:cZ} {R:Nat→Nat→Prop} {μ:Nat→Nat} {a:Act} {w:World}
def c4Q (P:Program)(s:St):ResultVar→Option DV
 | .tmp i=>some (s.tmps.getD i (.cT []))
 | .cell p ty=>match s.tmps.getD p (.cT []) with
  | .ptr k off=>(match getKey k s.H with
   |some (.cells cs)=>a7c P ty (cs.drop off)
   |_=>none)
  |_=>none
def yQ (P:Program)(s:St)(rs:List ResultVar):Option DV:=match rs with
 |[r]=>c4Q P s r
 |rs=>(a1U P s rs).map .cT
theorem c9U (hr:Rel P G base R μ st a w){r:ResultVar}{x:DV}(h:c4Q P st r=some x):∃v,(a6p a.tmps r).run P w= .ok v w∧TV R μ w v x:=by
 cases r with
 |tmp i=>simp only [c4Q,d8J] at h;subst h;have he:=hr.eval (.tmp i);simp only [St.eval,Act.eval] at he;exact ⟨_,rfl,he⟩
 |cell p ty=>
  simp only [c4Q] at h;have he:=hr.eval (.tmp p);simp only [St.eval,Act.eval] at he;split at h
  ·rename_i k off hp;split at h
   ·rename_i cs hk;rw [hp] at he;obtain ⟨_,_,hob⟩:=hr.gT k _ hk;have hrun:=(a6j.a1I hob).drop off;rw [Nat.zero_add] at hrun;obtain ⟨v,h1,h2,_⟩:=tR (P:=P) hrun h;refine ⟨v,?_,h2⟩;unfold a6p;simp only;rw [he.b3L];simp only [asAddr,Sem.run_bind,Sem.run_pure,Result.andThen_ok,h1]
   ·cases h
  ·cases h
theorem xL (hr:Rel P G base R μ st a w){fn:Func}{r:DV}(h:yQ P st fn.results.toList=some r):∃v,(results fn a.tmps).run P w= .ok v w∧TV R μ w v r:=by
 unfold yQ at h;split at h
 ·rename_i r0 hrs;obtain ⟨v,h1,h2⟩:=c9U hr h;refine ⟨v,?_,h2⟩;rw [a4n,Array.mapM_eq_mapM_toList,hrs];simp [h1]
 ·rename_i hne;obtain ⟨ds,hds,rfl⟩:=d8C.1 h;obtain ⟨vs,h1,h2,h3⟩:=a9i hr hds;have hl:vs.length≠1:=fun e=>by
   have:ds.length=1:=by omega
   have hrl:fn.results.toList.length=1:=by rw [← b2C hds];exact this
   match hq:fn.results.toList,hrl with
   |[x],_=>exact hne x hq
  refine ⟨.tuple vs.toArray,?_,.cT _ _ (by simpa using h2) (fun i d hi=>by have:=h3 i d hi;simpa [d8F,List.getD] using this)⟩;rw [a4n,Array.mapM_eq_mapM_toList];simp only [Sem.run_bind,Sem.run_map,h1,Result.andThen_ok,Sem.run_pure];rw [dif_neg (by simpa using hl)]
where b2C {P:Program} {s:St}:∀ {l:List ResultVar} {ds:List D},a1U P s l=some ds→ds.length=l.length
 |[],ds,h=>by simp [a1U] at h;subst h;rfl
 |r::l,ds,h=>by
  simp only [a1U] at h;split at h
  ·rename_i x ds' _ h';simp at h;subst h;simp [b2C h']
  ·cases h
def a6t (n:Nat)(rs:List ResultVar):Loc→Option Loc
 | .t j=>match rs with
  |[.tmp i]=>if i=j∧j<n then some (.t 0) else none
  |_=>none
 | .c k off=>some (.c k off)
def a7v (s:St)(rs:List ResultVar)(r:DV):St:=⟨[r],s.H,s.own.map fun c=>(c.1,c.2.filterMap (a6t s.tmps.length rs))⟩
def c0P (P:Program)(s:St)(rs:List ResultVar)(s1:St):Prop:=match yQ P s rs with
 |some r=>wD (a7v s rs r) s1
 |none=>False
theorem Rel.ret (hr:Rel P G base R μ st a w){fn:Func}{r:DV}{v:Value}(hv:(results fn a.tmps).run P w= .ok v w)(ht:TV R μ w v r):Rel P G base R μ (a7v st fn.results.toList r) { tmps:= #[v],defers:=[] } w:=by
 refine ⟨rfl,rfl,fun i u d hu hd=>?_,hr.gT,hr.inj,fun c hc k off hl=>?_,?_,hr.sN,hr.oP,hr.base,hr.pass⟩
 ·simp only [a7v] at hd;cases i with
  |zero=>simp at hu hd;subst hu hd;exact ht
  |succ i=>simp at hd
 ·simp only [a7v,List.mem_map] at hc;obtain ⟨c0,hc0,rfl⟩:=hc;simp only [List.mem_filterMap] at hl;obtain ⟨l0,hl0,he⟩:=hl;cases l0 with
  |t j=>
   simp only [a6t] at he;split at he
   ·split at he<;>cases he
   ·cases he
  |c k' off'=>simp only [a6t,d8J] at he;cases he;exact hr.dV c0 hc0 k off hl0
 ·obtain ⟨vs,hl,h1,hap⟩:=hr.own;refine ⟨vs,by simpa [a7v] using hl,fun i c u hc hu=>?_,hap⟩;simp only [a7v,d8N] at hc;obtain ⟨c0,hc0,rfl⟩:=d8C.1 hc;have ho:=h1 i c0 u hc0 hu;refine ⟨fun l hl u' hu'=>?_,ho.own,ho.keys⟩;simp only [List.mem_filterMap] at hl;obtain ⟨l0,hl0,he⟩:=hl;cases l0 with
  |t j=>
   simp only [a6t] at he;split at he
   ·rename_i i' hrs;split at he
    ·rename_i hij;cases he;obtain ⟨rfl,hlt⟩:=hij;simp [cE] at hu';subst hu';have hrs':fn.results= #[.tmp i']:=by apply Array.ext';simpa using hrs
     rw [results_tmp hrs' a.tmps P w] at hv;cases hv;have hlt':i'<a.tmps.size:=by rw [hr.size];exact hlt
     exact ho.dV _ hl0 _ (by simp [cE,hlt'])
    ·cases he
   ·cases he
  |c k' off'=>simp only [a6t,d8J] at he;subst he;exact ho.dV _ hl0 u' hu'
theorem CH.a3I {f:FuncId}{fn:Func}{c:Code}{n:Nat}{s0 s1:St}(hf:P.funcs[f]? =some fn)(hb:fn.body=some c)(hn:fn.ntmps=n){rs:List ResultVar}(hrs:fn.results.toList=rs)(hT:(s0.own.all fun c=>c.2.all fun l=>match l with| .t i=>decide (i<s0.tmps.length)|_=>true)=true)(h:SW P G c ⟨s0.tmps++List.replicate (n-s0.tmps.length) (.cT []),s0.H,s0.own⟩ fun e s=>(e= .normal∨e= .ret)∧c0P P s rs s1):CH P G f s0 s1:=by
 subst hrs;intro base R μ args w hr;refine calls_of_wp hf hb ?_
 have hsz:args.size=s0.tmps.length:=hr.size;have hrel:Rel P G base R μ ⟨s0.tmps++List.replicate (n-s0.tmps.length) (.cT []),s0.H,s0.own⟩ { tmps:=args++Array.replicate (fn.ntmps-args.size) undef,defers:=[] } w:=by
  refine ⟨rfl,by simp [hsz,hn],fun i v d hiv hid=>?_,hr.gT,hr.inj,hr.dV,?_,hr.sN,hr.oP,hr.base,hr.pass⟩
  ·simp only at hid;by_cases hi:i<s0.tmps.length
   ·rw [d8O hi] at hid;rw [Array.getElem?_append_left (by omega)] at hiv;exact hr.tmps i v d hiv hid
   ·rw [d8L (by omega),List.getElem?_replicate] at hid;split at hid<;>simp at hid;subst hid;rw [Array.getElem?_append_right (by omega),Array.getElem?_replicate] at hiv;split at hiv<;>simp at hiv;subst hiv;exact .cT #[] [] rfl (by simp)
  ·obtain ⟨vs,hl,h1,hap⟩:=hr.own;refine ⟨vs,hl,fun i c v hc hv=>?_,hap⟩;have ho:=h1 i c v hc hv;refine ⟨fun l hl u hu=>?_,ho.own,ho.keys⟩;cases l with
   |t j=>have hj:=d8G.1 (d8G.1 hT c (d8I hc)) _ hl;simp only [decide_eq_true_eq] at hj;simp only [cE] at hu;rw [Array.getElem?_append_left (by omega)] at hu;exact ho.dV _ hl u hu
   |c k off=>exact ho.dV _ hl u hu
 refine wp_mono (h base R μ _ w hrel) fun e a' w' ⟨s,R',μ',⟨he,hend⟩,hr',hs⟩=>?_
 unfold c0P at hend;split at hend
 ·rename_i r hres;obtain ⟨v,hv1,hv2⟩:=xL hr' hres;have hpost:a'.defers=[]∧∃v,(results fn a'.tmps).run P w'= .ok v w'∧∃v' R' μ',Ending.returned v= .returned v'∧Rel P G base R' μ' s1 { tmps:= #[v'],defers:=[] } w'∧Step base R w R' w':=
   ⟨hr'.defers,v,hv1,v,R',μ',rfl,(hr'.ret hv1 hv2).zI hend,hs⟩
  rcases he with rfl|rfl
  ·exact hpost
  ·exact hpost
 ·exact hend.elim
theorem CH.bH {f:FuncId}{fn:Func}{c:Code}{n:Nat}{s0 s1:St}(hf:P.funcs[f]? =some fn)(hb:fn.body=some c)(hn:fn.ntmps=n){rs:List ResultVar}(hrs:fn.results.toList=rs)(hT:(s0.own.all fun c=>c.2.all fun l=>match l with| .t i=>decide (i<s0.tmps.length)|_=>true)=true)(h:VK P G [.code c] .normal ⟨s0.tmps++List.replicate (n-s0.tmps.length) (.cT []),s0.H,s0.own⟩ fun e s=>(e= .normal∨e= .ret)∧c0P P s rs s1):CH P G f s0 s1:=CH.a3I hf hb hn hrs hT (a1m c _ _ (b6l h))
end
end Go.VM
end
section
namespace Go.VM
open Go Go.RowKit
def sG (s:St):List (TypeId×List Loc)→List (TypeId×List Loc)→Option (List (TypeId×List Loc))
 |own,[]=>some own
 |own,c::r=>if a9f s c then sG s own r else match wC c own with
  |some own1=>sG s own1 r
  |none=>none
def gE (K:List (Nat×Nat))(dst:Option Tmp):Loc→Option Loc
 | .t i=>if i=0 then dst.map Loc.t else none
 | .c k off=>some (.c (rk K k) off)
def gU (K:List (Nat×Nat))(dst:Option Tmp)(c:TypeId×List Loc):TypeId×List Loc:=(c.1,c.2.filterMap (gE K dst))
def a9r (K:List (Nat×Nat))(ls:List (Option Loc)):Loc→Option Loc
 | .t i=>(ls[i]?).join
 | .c k off=>some (.c (rk K k) off)
def oA (K:List (Nat×Nat))(ls:List (Option Loc))(c:TypeId×List Loc):TypeId×List Loc:=(c.1,c.2.filterMap (a9r K ls))
def vO (n:Nat)(ls:List (Option Loc))(own:List (TypeId×List Loc)):Bool:=own.all fun c=>c.2.all fun l=>match l with
 | .t i=>(match ls[i]? with
  |some (some (.t t))=>decide (t<n)
  |_=>false)
 | .c _ _=>true
def eJ:List (Nat×Nat)→List (TypeId×List Loc)→List (TypeId×List Loc)
 |[],own=>own
 |p::r,own=>eJ r (dropKey p.2 own)
def bQ (K:List (Nat×Nat)):List (Nat×aZ)→List (Nat×aZ)→List (Nat×aZ)
 |[],H=>H
 |p::r,H=>bQ K r (cI (rk K p.1) (dC K p.2) H)
def cS (K:List (Nat×Nat))(H:List (Nat×aZ)):List (Nat×aZ):=H.map fun p=>(rk K p.1,dC K p.2)
def qD (dst:Option Tmp)(d:DV)(l:List DV):List DV:=match dst with
 |some i=>l.set i d
 |none=>l
def qR (dst:Option Tmp)(own:List (TypeId×List Loc)):List (TypeId×List Loc):=match dst with
 |some d=>cL (.t d) own
 |none=>own
def bD (K:List (Nat×Nat))(dst:Option Tmp)(st:St)(rest:List (TypeId×List Loc))(r:DV)(H1:List (Nat×aZ))(own1:List (TypeId×List Loc)):St:=
 { tmps:=qD dst (bE K r) st.tmps,H:=bQ K H1 st.H,own:=own1.map (gU K dst)++qR dst (eJ K rest) }
def aQ (K:List (Nat×Nat))(s0:St)(r:DV)(H1:List (Nat×aZ)):Bool:=
 decide ((K.map (·.1)).Nodup)&&decide ((K.map (·.2)).Nodup)&&(K.all fun p=>decide (100000≤p.1))&&(s0.tmps.all (aX K))&&
 (s0.H.all fun p=>(K.any fun q=>q.1==p.1)&&aT K p.2&&(getKey p.1 H1).isSome)&&bC s0.H s0.own&&
 aX K r&&decide ((H1.map (·.1)).Nodup)&&(H1.all fun p=>aT K p.2&&(getKey p.1 s0.H).isSome)
theorem gV {k:Nat}{o:aZ}:∀ {H:List (Nat×aZ)},getKey k H=some o→(k,o)∈H
 |[],h=>by simp [getKey] at h
 |(k',o')::r,h=>by
  unfold getKey at h;split at h
  ·rename_i he;cases h;subst he;exact .head _
  ·exact .tail _ (gV h)
theorem getKey_of_mem {k:Nat}{o:aZ}:∀ {H:List (Nat×aZ)},(H.map (·.1)).Nodup→(k,o)∈H→getKey k H=some o
 |(k',o')::r,hn,h=>by
  simp only [List.map_cons,List.nodup_cons] at hn;unfold getKey;rcases List.mem_cons.1 h with he|h
  ·cases he;simp
  ·have:k'≠k:=fun e=>hn.1 (by rw [e];exact List.mem_map.2 ⟨(k,o),h,rfl⟩)
   rw [if_neg this];exact getKey_of_mem hn.2 h
theorem uM {K:List (Nat×Nat)}{k:Nat}{o:aZ}:∀ {l H:List (Nat×aZ)},getKey k (bQ K l H)=some o→(∃p∈l,k=rk K p.1∧o=dC K p.2)∨((∀p∈l,k≠rk K p.1)∧getKey k H=some o)
 |[],H,h=> .inr ⟨by simp,h⟩
 |p::r,H,h=>by
  rcases uM (l:=r) h with ⟨q,h1,h2⟩|⟨h1,h2⟩
  ·exact .inl ⟨q,.tail _ h1,h2⟩
  ·rw [gC] at h2;split at h2
   ·rename_i he;cases h2;exact .inl ⟨p,.head _,he.symm,rfl⟩
   ·rename_i hne;exact .inr ⟨fun q hq=>by rcases List.mem_cons.1 hq with rfl|hq;exact fun e=>hne e.symm;exact h1 q hq,h2⟩
theorem a1Z {K:List (Nat×Nat)}{k:Nat}:∀ {l H:List (Nat×aZ)},(∃o,getKey k H=some o)→∃o,getKey k (bQ K l H)=some o
 |[],H,h=>h
 |p::r,H,⟨o,h⟩=>a1Z (l:=r) (by
   rw [gC];split
   ·exact ⟨_,rfl⟩
   ·exact ⟨o,h⟩)
theorem a9s {K:List (Nat×Nat)}:∀ {own:List (TypeId×List Loc)} {i:Nat} {c:TypeId×List Loc},(eJ K own)[i]? =some c→∃c',own[i]? =some c'∧c.1=c'.1∧∀x,x∈c.2→x∈c'.2∧∀p∈K,x.uW p.2=false:=by
 induction K with
 |nil=>intro own i c h;exact ⟨c,h,rfl,fun x hx=>⟨hx,by simp⟩⟩
 |cons p r ih=>intro own i c h;obtain ⟨c1,h1,h2,h3⟩:=ih h;obtain ⟨c0,g1,g2,g3⟩:=uY h1;refine ⟨c0,g1,h2.trans g2,fun x hx=>?_⟩;obtain ⟨q1,q2⟩:=h3 x hx;have q3:=(g3 x).1 q1;exact ⟨q3.1,fun y hy=>by rcases List.mem_cons.1 hy with rfl|hy;exact q3.2;exact q2 y hy⟩
theorem a7w {dst:Option Tmp}{own:List (TypeId×List Loc)}{i:Nat}{c:TypeId×List Loc}(h:(qR dst own)[i]? =some c):∃c',own[i]? =some c'∧c.1=c'.1∧∀x,x∈c.2→x∈c'.2∧∀d,dst=some d→x≠ .t d:=by
 cases dst with
 |none=>exact ⟨c,h,rfl,fun x hx=>⟨hx,by simp⟩⟩
 |some d=>obtain ⟨c',h1,h2,h3⟩:=oI h;exact ⟨c',h1,h2,fun x hx=>⟨((h3 x).1 hx).1,fun d' hd=>by cases hd;exact ((h3 x).1 hx).2⟩⟩
theorem b9f (K:List (Nat×Nat)):∀own,(eJ K own).length=own.length:=by
 induction K with
 |nil=>intro own;rfl
 |cons p r ih=>intro own;simp [eJ,ih,dropKey]
theorem b6A (dst:Option Tmp)(own:List (TypeId×List Loc)):(qR dst own).length=own.length:=by cases dst<;>simp [qR,cL]
section
variable {P:Program} {G:GT} {st:St} {base:cZ} {R:Nat→Nat→Prop} {μ:Nat→Nat} {a:Act} {w:World}
theorem a2a (hr:Rel P G base R μ st a w):∀(cs own own1:List (TypeId×List Loc)) (vs:List Value),b8S P base R μ st a w own vs→sG st own cs=some own1→
  ∃vsT vs1:List Value,vsT.length=cs.length∧(∀(i:Nat) (c:TypeId×List Loc) (v:Value),cs[i]? =some c→vsT[i]? =some v→a0u P base R μ st a w c v)∧vsT.Pairwise a1f∧b8S P base R μ st a w own1 vs1∧
   (∀v∈vsT,∀u∈vs1,a1f v u)∧(∀x∈vs1,x∈vs)∧∀x∈vsT,bG x=none∨x∈vs
 |[],own,own1,vs,h,ht=>by simp only [sG,d8J] at ht;subst ht;exact ⟨[],vs,rfl,by simp,.nil,h,by simp,fun _ h=>h,by simp⟩
 |c::r,own,own1,vs,h,ht=>by
  unfold sG at ht;split at ht
  ·rename_i hn;obtain ⟨vsT,vs1,q1,q2,q3,q4,q5,q6,q7⟩:=a2a hr r own own1 vs h ht;have hex:∃v,a0u P base R μ st a w c v∧bG v=none:=by
    by_cases hx:∃l∈c.2,∃u,cE a w μ l=some u
    ·obtain ⟨l,hl,u,hu⟩:=hx;unfold a9f at hn;split at hn
     ·rename_i he;rw [he] at hl;cases hl
     ·rename_i l' he;rw [he] at hl;simp at hl;subst hl;obtain ⟨ao,rfl⟩:=b2z hr hn hu;have hs:bG (.slice ao 0 0)=none:=by cases ao<;>rfl
      exact ⟨.slice ao 0 0,⟨fun l2 hl2 u2 hu2=>by rw [he] at hl2;simp at hl2;subst hl2;rw [hu] at hu2;exact (Option.some.inj hu2).symm,.inl ⟨ao,rfl⟩,fun k o _=>by rw [hs];simp⟩,hs⟩
     ·cases hn
    ·exact ⟨.slice none 0 0,⟨fun l hl u hu=>absurd ⟨l,hl,u,hu⟩ hx,.inl ⟨none,rfl⟩,fun k o _=>by simp [bG]⟩,rfl⟩
   obtain ⟨v,hv1,hv2⟩:=hex;refine ⟨v::vsT,vs1,by simp [q1],fun i c' u hc hu=>?_,List.pairwise_cons.2 ⟨fun x _ g hg=>(by rw [hv2] at hg;cases hg),q3⟩,q4,fun x hx u hu=>?_,q6,fun x hx=>?_⟩
   ·cases i with
    |zero=>simp at hc hu;subst hc hu;exact hv1
    |succ i=>simp at hc hu;exact q2 i c' u hc hu
   ·rcases List.mem_cons.1 hx with rfl|hx
    ·exact fun g hg=>by rw [hv2] at hg;cases hg
    ·exact q5 x hx u hu
   ·rcases List.mem_cons.1 hx with rfl|hx
    ·exact .inl hv2
    ·exact q7 x hx
  ·split at ht
   ·rename_i own2 htk;obtain ⟨v,vs2,p1,p2,p3,p4,p5⟩:=h.take htk;obtain ⟨vsT,vs1,q1,q2,q3,q4,q5,q6,q7⟩:=a2a hr r own2 own1 vs2 p2 ht;refine ⟨v::vsT,vs1,by simp [q1],fun i c' u hc hu=>?_,List.pairwise_cons.2 ⟨fun x hx=>?_,q3⟩,q4,fun x hx u hu=>?_,fun x hx=>p3 x (q6 x hx),fun x hx=>?_⟩
    ·cases i with
     |zero=>simp at hc hu;subst hc hu;exact p1
     |succ i=>simp at hc hu;exact q2 i c' u hc hu
    ·rcases q7 x hx with hs|hx'
     ·exact fun g _ hg=>by rw [hs] at hg;cases hg
     ·exact p5 x hx'
    ·rcases List.mem_cons.1 hx with rfl|hx
     ·exact p5 u (q6 u hu)
     ·exact q5 x hx u hu
    ·rcases List.mem_cons.1 hx with rfl|hx
     ·exact .inr p4
     ·rcases q7 x hx with hs|hx'
      ·exact .inl hs
      ·exact .inr (p3 x hx')
   ·cases ht
end
end Go.VM
end
section
namespace Go.VM
open Go Go.RowKit
section
variable {P:Program} {G:GT} {st:St}
theorem mX.mono {b b':cZ}{R:Nat→Nat→Prop}{w:World}{e:TypeId}{v:Value}(h:mX P b R w e v)(hb:∀k,b k→b' k):mX P b' R w e v:=by
 rcases h with h|⟨g,n,cap,cur,h0,h1,h2⟩
 ·exact .inl h
 ·exact .inr ⟨g,n,cap,cur,h0,hb g h1,h2⟩
theorem mC.a7x {f:FuncId}{s0:St}{r:DV}{H1:List (Nat×aZ)}{own1:List (TypeId×List Loc)}(hch:CH P G f s0 ⟨[r],H1,own1⟩)(K:List (Nat×Nat)){d8B:List DV}{ls:List (Option Loc)}{dst:Option Tmp}{rest:List (TypeId×List Loc)}(hfit:aQ K s0 r H1=true)(hargs:WkT d8B (aU K s0.tmps))(hH:WkH st.H (cS K s0.H))(jW:sG st st.own (s0.own.map (oA K ls))=some rest)(kn:vO st.tmps.length ls s0.own=true):
  mC P G f d8B ls st dst (bD K dst st rest r H1 own1):=by
 simp only [aQ,d8D,decide_eq_true_eq,d8G] at hfit;obtain ⟨⟨⟨⟨⟨⟨⟨⟨kf,ks⟩,kp⟩,kt⟩,kh⟩,kl⟩,kr⟩,kd⟩,k1⟩:=hfit;intro base R μ a w args hr hl hv hloc;obtain ⟨vs,hvs⟩:=hr.own;obtain ⟨vsT,vsR,t1,t2,t3,t4,t5,t6,t7⟩:=a2a hr _ _ _ vs ⟨hvs.len,hvs.one,hvs.apart⟩ jW;have inK:∀k o,getKey k s0.H=some o→(K.any fun p=>p.1==k)=true∧aT K o=true∧(getKey k H1).isSome=true:=fun k o hk=>by
  have:=kh _ (gV hk)
  try simp only [d8D] at this
  exact ⟨this.1.1,this.1.2,this.2⟩
 have inst:∀k o,getKey k s0.H=some o→∃o',getKey (rk K k) st.H=some o'∧WkO o' (dC K o):=fun k o hk=>by
  have hm:=gV hk;have:∀ {l:List (Nat×aZ)},WkH st.H (cS K l)→(k,o)∈l→∃o',getKey (rk K k) st.H=some o'∧WkO o' (dC K o):=by
   intro l
   induction l with
   |nil=>intro _ h;cases h
   |cons p l ih=>
    intro hw hp;obtain ⟨h1,h2⟩:=hw;rcases List.mem_cons.1 hp with rfl|hp
    ·exact h1
    ·exact ih h2 hp
  exact this hH hm
 have big:∀k,(K.any fun p=>p.1==k)=true→100000≤k:=fun k hk=>by obtain ⟨p,h1,h2,_⟩:=xF hk;rw [← h2];exact kp p h1
 have rinj:∀k k',(K.any fun p=>p.1==k)=true→(K.any fun p=>p.1==k')=true→rk K k=rk K k'→k=k':=fun k k' h h' he=>by
  obtain ⟨p,p1,p2,p3⟩:=xF h;obtain ⟨q,q1,q2,q3⟩:=xF h';have hpq:p.2=q.2:=by rw [← p3, ← q3,he]
  have:p=q:=a2V ks p1 q1 hpq;rw [← p2, ← q2,this]
 have one:∀k,(getKey k H1).isSome=true→∃o,getKey k s0.H=some o:=fun k hk=>by
  obtain ⟨o,ho⟩:=Option.isSome_iff_exists.1 hk;have:=k1 _ (gV ho)
  try simp only [d8D] at this
  exact Option.isSome_iff_exists.1 this.2
 let base':cZ:=⟨fun b=>w.heap.size≤b∨(∃k o,getKey k s0.H=some o∧b=μ (rk K k))∨(∃v∈vsT,bG v=some b),fun k=>μ (rk K k)⟩
 have sub:∀b,base' b→base b:=fun b hb=>by
  rcases hb with hb|⟨k,o,hk,rfl⟩|⟨v,hv,hs⟩
  ·exact hr.base b hb
  ·obtain ⟨o',ho',_⟩:=inst k o hk;exact (hr.gT _ o' ho').1
  ·obtain ⟨i,hi⟩:=d8U hv;have hil:i<(s0.own.map (oA K ls)).length:=by rw [← t1];exact (d8E.1 hi).1
   exact (t2 i _ v (d8H hil) hi).own.yH hs
 have hrel0:Rel P G base' R (fun k=>μ (rk K k)) s0 { tmps:=args,defers:=[] } w:=by
  obtain ⟨g1,g2⟩:=xH hargs;rw [pA] at g1 g2;refine ⟨rfl,by show args.size=s0.tmps.length;rw [List.length_map] at g1;omega,fun i v d hiv hid=>?_,fun k o hk=>?_,fun k k' o o' hk hk' he=>?_,fun c hc k off hl'=>?_,⟨vsT,by simpa using t1,fun i c v hc hv'=>?_,t3⟩,hr.sN.up sub,hr.oP,fun b hb=> .inl hb,fun k hk=>rfl⟩
  ·obtain ⟨d0,hd0,hcase⟩:=g2 i (bE K d) (by rw [d8N,hid];rfl);have hva:=hv i d0 hd0;have hav:args.getD i undef=v:=by simp only at hiv;simp [d8F,hiv]
   rw [hav] at hva;have hren:TV R μ w v (bE K d):=by
    rcases hcase with hc|hc|⟨hc1,hc2⟩
    ·rw [hc];exact .undef _
    ·rw [hc];exact hva
    ·rw [hc2];rw [hc1] at hva;obtain ⟨ao,rfl⟩:=hva.a4U.jI;exact .d _ _ (.emp _ _)
   exact hren.ren (μ:=μ) (fun _ _=>rfl) (kt d (d8I hid))
  ·obtain ⟨q1,q2,_⟩:=inK k o hk;obtain ⟨o',ho',hw⟩:=inst k o hk;obtain ⟨p1,p2,p3⟩:=hr.gT _ o' ho';exact ⟨.inr (.inl ⟨k,o,hk,rfl⟩),p2,(a8x hw p3).ren (fun _ _=>rfl) q2⟩
  ·obtain ⟨o1,h1,_⟩:=inst k o hk;obtain ⟨o2,h2,_⟩:=inst k' o' hk';exact rinj k k' (inK k o hk).1 (inK k' o' hk').1 (hr.inj _ _ o1 o2 h1 h2 he)
  ·have:=d8G.1 (d8G.1 kl c hc) _ hl';exact Option.isSome_iff_exists.1 this
  ·have ho:=t2 i (oA K ls c) v (by rw [d8N,hc];rfl) hv';refine ⟨fun l hl' u hu=>?_,?_,fun k o hk=>?_⟩
   ·have hn:=d8G.1 (d8G.1 kn c (d8I hc)) l hl';cases l with
    |t j=>
     simp only at hn;split at hn
     ·rename_i t hj;simp only [decide_eq_true_eq] at hn;have ht:t<a.tmps.size:=by rw [hr.size];exact hn
      have hlv:cE a w μ (.t t)=some a.tmps[t]:=by simp [cE,ht]
      have h1:=hloc j _ hj _ hlv;have h2:=ho.dV (.t t) (List.mem_filterMap.2 ⟨.t j,hl',by simp [a9r,hj]⟩) _ hlv;simp only [cE] at hu;have h3:args.getD j undef=u:=by simp [d8F,hu]
      rw [← h3, ← h1,h2]
     ·cases hn
    |c k off=>exact ho.dV (.c (rk K k) off) (List.mem_filterMap.2 ⟨.c k off,hl',rfl⟩) u hu
   ·rcases ho.own with h|⟨g,n,cap,cur,h0,h1,h2,h3,h4⟩
    ·exact .inl h
    ·by_cases hc0:cap=0
     ·subst hc0;have:n=0:=by omega
      subst this;exact .inl ⟨_,h0⟩
     ·exact .inr ⟨g,n,cap,cur,h0,.inr (.inr ⟨v,d8I hv',by rw [h0];simp [bG,hc0]⟩),h2,h3,h4⟩
   ·obtain ⟨o',ho',_⟩:=inst k o hk;exact ho.keys _ o' ho'
 refine (hch base' R (fun k=>μ (rk K k)) args w hrel0).mono fun e w' ⟨v,R',ν,he,hrel1,hs⟩=>⟨v,R',μ,he,?_,⟨hs.below.mono sub,hs.mono,fun b o h1 h2=>sub b (hs.new b o h1 h2),hs.cells⟩⟩
 have hsb:Step base R w R' w':=⟨hs.below.mono sub,hs.mono,fun b o h1 h2=>sub b (hs.new b o h1 h2),hs.cells⟩;have hν:∀k,(K.any fun p=>p.1==k)=true→ν k=μ (rk K k):=fun k hk=>hrel1.pass k (big k hk)
 have k1':∀p∈H1,aT K p.2=true∧(∃o,getKey p.1 s0.H=some o)∧getKey p.1 H1=some p.2:=fun p hp=>by
  have:=k1 p hp
  try simp only [d8D] at this
  exact ⟨this.1,Option.isSome_iff_exists.1 this.2,getKey_of_mem kd hp⟩
 have kept:∀b, ¬base' b→w'.heap[b]? =w.heap[b]? ∧∀off,R' b off→R b off:=fun b hb=>⟨hs.below.block b hb,fun off h=>by
  by_cases hx:R b off
  ·exact hx
  ·exact absurd (hs.new b off h hx) hb⟩
 have objOut:∀k o,(∀p∈H1,k≠rk K p.1)→getKey k st.H=some o→ ¬base' (μ k):=fun k o hk ho hb=>by
  rcases hb with hb|⟨k0,o0,h0,he'⟩|⟨u,hu,hsp⟩
  ·have:=(hr.gT k o ho).2.2.lt;omega
  ·obtain ⟨o',ho',_⟩:=inst k0 o0 h0;have:=hr.inj k (rk K k0) o o' ho ho' he';obtain ⟨o1,ho1⟩:=Option.isSome_iff_exists.1 (inK k0 o0 h0).2.2;exact hk (k0,o1) (gV ho1) this
  ·obtain ⟨i,hi⟩:=d8U hu;have hil:i<(s0.own.map (oA K ls)).length:=by rw [← t1];exact (d8E.1 hi).1
   exact (t2 i _ u (d8H hil) hi).keys k o ho hsp
 have known:∀k o,getKey k (bQ K H1 st.H)=some o→∃o',getKey k st.H=some o':=fun k o hk=>by
  rcases uM hk with ⟨p,hp,rfl,_⟩|⟨_,h⟩
  ·obtain ⟨_,⟨o0,h0⟩,_⟩:=k1' p hp;obtain ⟨o',ho',_⟩:=inst _ _ h0;exact ⟨o',ho'⟩
  ·exact ⟨o,h⟩
 obtain ⟨vs1,hv1⟩:=hrel1.own;have hd0:∀u,(#[v]:Array Value)[0]? =some u→u=v:=fun u hu=>by simp at hu;exact hu.symm
 refine ⟨by cases dst<;>exact hr.defers,?_,fun i u d hu hd=>?_,fun k o hk=>?_,fun k k' o o' hk hk' he'=>?_,fun c hc k off hl'=>?_,⟨vs1++vsR,?_,fun i c u hc hu=>?_,?_⟩,hr.sN.bL hsb,hrel1.oP,fun b hb=>hr.base b (Nat.le_trans hs.below.size hb),hr.pass⟩
 ·cases dst with
  |none=>exact hr.size
  |some t=>simp [bD,qD,Act.put,hr.size]
 ·
  have hres:TV R' μ w' v (bE K r):=(hrel1.tmps 0 v r rfl rfl).b2r hν kr;cases dst with
  |none=>exact (hr.tmps i u d hu hd).bL hsb
  |some t=>
   simp only [bD,qD,Act.put] at hu hd;by_cases hti:t=i
   ·subst hti;have h1:t<st.tmps.length:=by
     by_cases hlt:t<st.tmps.length
     ·exact hlt
     ·have hno:(st.tmps.set t (bE K r))[t]? =none:=List.getElem?_eq_none (by rw [List.length_set];exact Nat.le_of_not_lt hlt)
      rw [hno] at hd;cases hd
    have h2:t<a.tmps.size:=by rw [hr.size];exact h1
    simp [h1] at hd;simp [h2] at hu;subst hu hd;exact hres
   ·rw [Array.getElem?_setIfInBounds_ne hti] at hu;rw [List.getElem?_set_ne hti] at hd;exact (hr.tmps i u d hu hd).bL hsb
 ·
  simp only [bD] at hk;rcases uM hk with ⟨p,hp,rfl,rfl⟩|⟨hk1,hk2⟩
  ·obtain ⟨q1,⟨o0,h0⟩,q3⟩:=k1' p hp;obtain ⟨p1,p2,p3⟩:=hrel1.gT p.1 p.2 q3;have hk0:=(inK _ _ h0).1;rw [hν _ hk0] at p1 p2 p3;exact ⟨sub _ p1,p2,p3.b2r hν q1⟩
  ·obtain ⟨p1,p2,p3⟩:=hr.gT k o hk2;obtain ⟨e1,e2⟩:=kept _ (objOut k o hk1 hk2);exact ⟨p1,fun off h=>p2 off (e2 off h),p3.bL hsb e1⟩
 ·obtain ⟨o1,h1⟩:=known k o hk;obtain ⟨o2,h2⟩:=known k' o' hk';exact hr.inj k k' o1 o2 h1 h2 he'
 ·
  simp only [bD,List.mem_append] at hc;rcases hc with hc|hc
  ·obtain ⟨c0,hc0,rfl⟩:=List.mem_map.1 hc;obtain ⟨l0,hl0,he0⟩:=List.mem_filterMap.1 hl';cases l0 with
   |t j=>
    simp only [gE] at he0;split at he0
    ·cases dst<;>simp at he0
    ·cases he0
   |c k0 off0=>simp only [gE,d8J] at he0;cases he0;obtain ⟨o,ho⟩:=hrel1.dV c0 hc0 k0 off hl0;have hm:=gV ho;obtain ⟨_,⟨o0,h0⟩,_⟩:=k1' _ hm;obtain ⟨o',ho',_⟩:=inst _ _ h0;exact a1Z ⟨o',ho'⟩
  ·obtain ⟨i,hi⟩:=d8U hc;obtain ⟨c1,g1,_,g3⟩:=a7w hi;obtain ⟨c2,f1,_,f3⟩:=a9s g1;have hx:=(f3 _ (g3 _ hl').1).1;have hmem:=d8I f1;obtain ⟨o,ho⟩:=hr.dV c2 (a2W jW c2 hmem) k off hx;exact a1Z ⟨o,ho⟩
 ·have:=hv1.len;have:=t4.len;simp only [bD,List.length_append,List.length_map,b6A,b9f];simp at *;omega
 ·
  simp only [bD] at hc;have h1l:vs1.length=own1.length:=hv1.len;by_cases hi:i<own1.length
  ·rw [d8O (by simpa using hi),d8N] at hc;rw [d8O (by omega)] at hu;obtain ⟨c0,hc0,rfl⟩:=d8C.1 hc;have ho:=hv1.one i c0 u hc0 hu;refine ⟨fun l hl' u' hu'=>?_,ho.own.mono sub,fun k o hk=>?_⟩
   ·obtain ⟨l0,hl0,he0⟩:=List.mem_filterMap.1 hl';cases l0 with
    |t j=>
     simp only [gE] at he0;split at he0
     ·rename_i hj;subst hj;cases dst with
      |none=>simp at he0
      |some t=>
       simp at he0;subst he0;simp only [cE,Act.put] at hu';by_cases hlt:t<a.tmps.size
       ·simp [hlt] at hu';subst hu';exact ho.dV (.t 0) hl0 _ (by simp [cE])
       ·simp [hlt] at hu'
     ·cases he0
    |c k0 off0=>
     simp only [gE,d8J] at he0;subst he0;obtain ⟨o,hoo⟩:=hrel1.dV c0 (d8I hc0) k0 off0 hl0;obtain ⟨_,⟨o0,h0⟩,_⟩:=k1' _ (gV hoo);have hk0:=(inK _ _ h0).1;refine ho.dV (.c k0 off0) hl0 u' ?_
     simp only [cE] at hu' ⊢;rw [hν _ hk0];cases dst<;>exact hu'
   ·simp only [bD] at hk;rcases uM hk with ⟨p,hp,rfl,_⟩|⟨hk1,hk2⟩
    ·obtain ⟨_,⟨o0,h0⟩,q3⟩:=k1' p hp;have:=ho.keys p.1 p.2 q3;rw [hν _ (inK _ _ h0).1] at this;exact this
    ·intro hsp;exact objOut k o hk1 hk2 (ho.own.yH hsp)
  ·rw [d8L (by simp;omega)] at hc;rw [d8L (by omega)] at hu;simp only [List.length_map] at hc;rw [h1l] at hu;obtain ⟨c1,g1,g2,g3⟩:=a7w hc;obtain ⟨c2,f1,f2,f3⟩:=a9s g1;have ho:=t4.one _ c2 u f1 hu;have hum:=d8I hu;have out:∀g,bG u=some g→ ¬base' g:=fun g hg hb=>by
    rcases hb with hb|⟨k0,o0,h0,he'⟩|⟨x,hx,hsp⟩
    ·have:=ho.own.lt hg;omega
    ·obtain ⟨o',ho',_⟩:=inst k0 o0 h0;exact ho.keys _ o' ho' (by rw [hg,he'])
    ·exact t5 x hx u hum g hsp hg
   refine ⟨fun l hl' u' hu'=>?_,?_,fun k o hk=>?_⟩
   ·obtain ⟨q1,q2⟩:=g3 l hl';obtain ⟨q3,q4⟩:=f3 l q1;refine ho.dV l q3 u' ?_
    rw [a3B q2] at hu';cases l with
    |t j=>exact hu'
    |c k off=>
     obtain ⟨o,hoo⟩:=hr.dV c2 (a2W jW c2 (d8I f1)) k off q3;have hno:∀p∈H1,k≠rk K p.1:=fun p hp e=>by obtain ⟨_,⟨o0,h0⟩,_⟩:=k1' p hp;obtain ⟨q,hq1,hq2,hq3⟩:=xF (inK _ _ h0).1;have:=q4 q hq1;simp [Loc.uW,e,hq3] at this
     rw [← hu'];exact (World.cell?_of_block (kept _ (objOut k o hno hoo)).1).symm
   ·have:mX P base R' w' c2.1 u:=ho.own.c0C (fun g hg=>(kept g (out g hg)).1) (fun g off hg h=>(kept g (out g hg)).2 off h);rw [g2,f2];exact this
   ·obtain ⟨o',ho'⟩:=known k o hk;exact ho.keys k o' ho'
 ·refine List.pairwise_append.2 ⟨hv1.apart,t4.apart,fun x hx y hy g hg hg'=>?_⟩;obtain ⟨i,hi⟩:=d8U hx;have hil:i<own1.length:=by rw [← hv1.len];exact (d8E.1 hi).1
  have hb:=(hv1.one i _ x (d8H hil) hi).own.yH hg;obtain ⟨j,hj⟩:=d8U hy;have hjl:j<rest.length:=by rw [← t4.len];exact (d8E.1 hj).1
  have ho:=t4.one j _ y (d8H hjl) hj;rcases hb with hb|⟨k0,o0,h0,he'⟩|⟨z,hz,hsp⟩
  ·have:=ho.own.lt hg';omega
  ·obtain ⟨o',ho',_⟩:=inst k0 o0 h0;exact ho.keys _ o' ho' (by rw [hg',he'])
  ·exact t5 z hz y hy g hsp hg'
where
 a2V {α β:Type} {f:α→β}:∀ {l:List α},(l.map f).Nodup→∀ {x y:α},x∈l→y∈l→f x=f y→x=y
  |z::l,hn,x,y,hx,hy,he=>by
   simp only [List.map_cons,List.nodup_cons,List.mem_map,not_exists,not_and] at hn;rcases List.mem_cons.1 hx with h1|h1
   ·rcases List.mem_cons.1 hy with h2|h2
    ·rw [h1,h2]
    ·exact absurd (by rw [← he,h1]) (hn.1 y h2)
   ·rcases List.mem_cons.1 hy with h2|h2
    ·exact absurd (by rw [he,h2]) (hn.1 x h1)
    ·exact a2V hn.2 h1 h2 he
 b6B {c:TypeId×List Loc} {own own1:List (TypeId×List Loc)} (h:wC c own=some own1):∀x∈own1,x∈own:=fun x hx=>by obtain ⟨pre,c0,post,rfl,rfl,_,_⟩:=a0B h;simp at hx ⊢;rcases hx with hx|hx<;>simp [hx]
 a2W {s:St}:∀ {cs own own1:List (TypeId×List Loc)},sG s own cs=some own1→∀x∈own1,x∈own
  |[],own,own1,h,x,hx=>by simp only [sG,d8J] at h;subst h;exact hx
  |c::r,own,own1,h,x,hx=>by
   unfold sG at h;split at h
   ·exact a2W h x hx
   ·split at h
    ·rename_i own2 ht;exact b6B ht x (a2W h x hx)
    ·cases h
theorem gD.mk {q ro:Bool}{ls:List (Option Loc)}{f:FuncId}{s0:St}{r:DV}{H1:List (Nat×aZ)}{own1:List (TypeId×List Loc)}{d8B:List DV}{dst:Option Tmp}{all:Array Oper}{ops:List Oper}{k:List KI}{Q:Exit→St→Prop}{rest:List (TypeId×List Loc)}(he:Enters P f)(hch:CH P G f s0 ⟨[r],H1,own1⟩)(K:List (Nat×Nat))(hfit:aQ K s0 r H1=true)(hargs:WkT d8B (aU K s0.tmps))(hH:WkH st.H (cS K s0.H))(jW:sG st st.own (s0.own.map (oA K ls))=some rest)(harg:vO st.tmps.length ls s0.own=true)(h:VK P G (.ops q all ops::k) .normal (bD K dst st rest r H1 own1) Q)(hro:ro=false:=by kernel_rfl):gD P G q ro f d8B ls dst all ops k st Q:=gD.mk' ⟨_,⟨he,mC.a7x hch K hfit hargs hH jW harg⟩,h⟩ hro
theorem aI.own {q ro qn:Bool}{ls:List (Option Loc)}{f:FuncId}{s0:St}{r:DV}{own1:List (TypeId×List Loc)}{ds:List D}{dst:Option Tmp}{all:Array Oper}{ops:List Oper}{k:List KI}{Q:Exit→St→Prop}{rest:List (TypeId×List Loc)}(he:Enters P f)(hch:CH P G f s0 ⟨[r],[],own1⟩)(hfit:aQ [] s0 r []=true)(hargs:WkT (ds.map .d) (aU [] s0.tmps))(hH:WkH st.H (cS [] s0.H))(jW:sG st st.own (s0.own.map (oA [] ls))=some rest)(harg:vO st.tmps.length ls s0.own=true)(h:VK P G (.ops q all ops::k) .normal (bD [] dst st rest r [] own1) Q)(hro:ro=false:=by kernel_rfl):aI P G q ro qn f ds ls dst all ops k st Q:=aI.eI ⟨_,⟨he,mC.a7x hch [] hfit hargs hH jW harg⟩,h⟩ hro
theorem a7y {k:Nat}{o:aZ}:∀ {H:List (Nat×aZ)},getKey k H=some o→wW k o H=H
 |[],h=>by simp [getKey] at h
 |(k',o')::r,h=>by
  unfold getKey at h;unfold wW;split at h
  ·rename_i he;cases h;subst he;simp
  ·rename_i he;rw [if_neg he,a7y h]
theorem b6C {k:Nat}{o:aZ}{H:List (Nat×aZ)}(h:getKey k H=some o):cI k o H=H:=by unfold cI;rw [h];exact a7y h
theorem a5l {K:List (Nat×Nat)}:∀ {l H:List (Nat×aZ)},(∀p∈l,getKey (rk K p.1) H=some (dC K p.2))→bQ K l H=H
 |[],H,_=>rfl
 |p::r,H,h=>by unfold bQ;rw [b6C (h p (.head _))];exact a5l fun q hq=>h q (.tail _ hq)
theorem b4a {k:Nat}{ks:List Nat}{own:List (TypeId×List Loc)}(hk:k∈ks)(h:jQ ks own=true):dropKey k own=own:=by
 unfold dropKey
 conv=>rhs;rw [← List.map_id own]
 refine List.map_congr_left fun c hc=>?_
 have h1:=d8G.1 h c hc;have:c.2.filter (fun x=> !x.uW k)=c.2:=List.filter_eq_self.2 fun l hl=>by
  have h2:=d8G.1 h1 l hl;cases l with
  |t i=>rfl
  |c k' off=>simp only [c4d,Bool.not_eq_true',List.contains_eq_mem,decide_eq_false_iff_not] at h2;simp only [Loc.uW,Bool.not_eq_true',beq_eq_false_iff_ne,ne_eq];exact fun e=>h2 (e▸hk)
 rw [this];rfl
theorem a7z:∀ {K:List (Nat×Nat)} {ks:List Nat} {own:List (TypeId×List Loc)},(∀p∈K,p.2∈ks)→jQ ks own=true→eJ K own=own
 |[],_,_,_,_=>rfl
 |p::r,ks,own,h,hn=>by unfold eJ;rw [b4a (h p (.head _)) hn];exact a7z (fun q hq=>h q (.tail _ hq)) hn
def a3J (H:List (Nat×aZ)):List (Nat×aZ)→Prop
 |[]=>True
 |p::r=>getKey p.1 H=some p.2∧a3J H r
theorem b6D:∀l:List DV,WkT l l
 |[]=>trivial
 |d::r=>⟨.inr (.inl rfl),b6D r⟩
theorem b2D {H:List (Nat×aZ)}:∀ {l:List (Nat×aZ)},a3J H l→WkH H l
 |[],_=>trivial
 |p::r,h=>⟨⟨p.2,h.1,by cases p.2<;>simp [WkO,b6D]⟩,b2D h.2⟩
theorem a9t {H:List (Nat×aZ)}{K:List (Nat×Nat)}:∀ {l:List (Nat×aZ)},a3J H (cS K l)→∀p∈l,getKey (rk K p.1) H=some (dC K p.2)
 |q::r,h,p,hp=>by
  rcases List.mem_cons.1 hp with rfl|hp
  ·exact h.1
  ·exact a9t h.2 p hp
theorem a7A {H H':List (Nat×aZ)}{K:List (Nat×Nat)}{ks:List Nat}(ha:∀k∈ks,getKey k H'=getKey k H):∀ {l:List (Nat×aZ)},(∀p∈l,rk K p.1∈ks)→a3J H (cS K l)→a3J H' (cS K l)
 |[],_,_=>trivial
 |p::r,hi,h=>⟨(ha _ (hi p (.head _))).trans h.1,a7A ha (fun q hq=>hi q (.tail _ hq)) h.2⟩
theorem RO.a7x {f:FuncId}{tmps:List DV}{H0:List (Nat×aZ)}{r:DV}{d8B:List DV}{H:List (Nat×aZ)}(hch:CH P G f ⟨tmps,H0,[]⟩ ⟨[r],H0,[]⟩)(K:List (Nat×Nat))(hfit:aQ K ⟨tmps,H0,[]⟩ r H0=true)(hargs:WkT d8B (aU K tmps))(hH:a3J H (cS K H0)):RO P G f d8B (K.map (·.2)) H (bE K r):=by
 intro st hst hno dst ls;have hin:∀p∈H0,rk K p.1∈K.map (·.2):=fun p hp=>by simp only [aQ,d8D,d8G] at hfit;obtain ⟨⟨⟨⟨⟨_,hh⟩,_⟩,_⟩,_⟩,_⟩:=hfit;obtain ⟨q,q1,q2,q3⟩:=xF (hh p hp).1.1;rw [q3];exact List.mem_map_of_mem q1
 have hH:a3J st.H (cS K H0):=a7A hst hin hH;have h:=mC.a7x (st:=st) (dst:=dst) (ls:=ls) hch K hfit hargs (b2D hH) (rest:=st.own) rfl rfl;have he:bD K dst st st.own r H0 []=finish st dst (bE K r) .no:=by unfold bD;rw [a5l (a9t hH),a7z (ks:=K.map (·.2)) (fun p hp=>List.mem_map_of_mem hp) hno];cases dst<;>rfl
 rw [← he];exact h
theorem gD.ro {q ro:Bool}{ls:List (Option Loc)}{f:FuncId}{tmps:List DV}{H0:List (Nat×aZ)}{r:DV}{d8B:List DV}{dst:Option Tmp}{all:Array Oper}{ops:List Oper}{k:List KI}{Q:Exit→St→Prop}(he:Enters P f)(hch:CH P G f ⟨tmps,H0,[]⟩ ⟨[r],H0,[]⟩)(K:List (Nat×Nat))(hfit:aQ K ⟨tmps,H0,[]⟩ r H0=true)(hargs:WkT d8B (aU K tmps))(hH:a3J st.H (cS K H0))(hno:jQ (K.map (·.2)) st.own=true)(hks:((K.map (·.2)).all fun k=>(getKey k st.H).isSome)=true)(h:VK P G (.ops q all ops::k) .normal (finish st dst (bE K r) .no) Q)(hkl:pO (bE K r)=true:=by rfl):gD P G q ro f d8B ls dst all ops k st Q:=gD.ro' he (RO.a7x hch K hfit hargs hH) hno hks hkl h
end
attribute [simp] a9r oA vO a3J jQ c4d bD bE aU rk dC cS gE gU eJ bQ qD qR sG aQ aX aS aT a7v a6t c0P yQ c4Q
end Go.VM
end
end
section
section
namespace Go.Proofs.YtjpodcmhcenjjaaGreatDoor
open Go Go.VM
variable {G:GT}
def inB (n:Int):Bool:=decide (-1000000000000≤n)&&decide (n≤1000000000000)
theorem b6E:VM.Enters Tryz.prog 228:=VM.Enters.mk Tryz.func228 rfl
theorem zJ:VM.Enters Tryz.prog 206:=VM.Enters.mk Tryz.func206 rfl
theorem c0Q (n:Int):CS Tryz.prog G 228 [.int .i64 n] (.d (.bool (inB n))) none:=by
 refine CS.bH Tryz.func228 rfl Tryz.ntmps228 rfl ?_
 by_cases h: -1000000000000≤n<;>simp [inB,h]
def chk (n:Int)(ok:Bool):Int×Bool:=if ok&&inB n then (n,true) else (0,false)
theorem a0F (n:Int)(ok:Bool):CS Tryz.prog G 206 [.int .i64 n,.bool ok] (.cT [.int .i64 (chk n ok).1,.bool (chk n ok).2]) none:=by
 refine CS.bH Tryz.func206 rfl Tryz.ntmps206 rfl ?_
 cases ok
 ·simp [chk]
 ·simp;refine aI.mk b6E (c0Q _) ?_
  cases h:inB n<;>simp [chk,h]
end Go.Proofs.YtjpodcmhcenjjaaGreatDoor
end
section
namespace Go.Proofs.YtjpodcmhcenjjaaGreatDoor
open Go Go.VM
def tV (c:UInt8):Bool:=decide (48≤c.toNat)&&decide (c.toNat≤57)
def b9g (a:Nat)(l:List UInt8):Nat:=l.foldl (fun a c=>10*a+(c.toNat-48)) a
def kD (l:List UInt8):Nat:=b9g 0 l
theorem b2E (l:List UInt8)(c:UInt8):kD (l++[c])=10*kD l+(c.toNat-48):=by simp [kD,b9g]
theorem a5m:kD []=0:=rfl
theorem wQ {l:List UInt8}{i:Nat}(h:i<l.length):kD (l.take (i+1))=10*kD (l.take i)+(l[i].toNat-48):=by rw [d8S h,b2E]
theorem sV {c:UInt8}:tV c=true↔48≤c.toNat∧c.toNat≤57:=by simp [tV]
def a6u (s:List UInt8):Bool:=decide (s.head? =some 45)
def oJ (s:List UInt8):List UInt8:=if a6u s then s.tail else s
def sgn (b:Bool)(v:Nat):Int:=if b then -(v:Int) else v
def pB (s:List UInt8):Bool:=decide (1≤(oJ s).length)&&decide ((oJ s).length≤13)&& !(decide ((oJ s).head? =some 48)&&(a6u s||decide (1<(oJ s).length)))
def oV (s:List UInt8):Int×Bool:=if pB s&&(oJ s).all tV then chk (sgn (a6u s) (kD (oJ s))) true else (0,false)
theorem wR {s:List UInt8}(h:(oJ s).all tV=false):oV s=(0,false):=by simp [oV,h]
end Go.Proofs.YtjpodcmhcenjjaaGreatDoor
end
section
namespace Go.Proofs
open Go.Shelf
def Tryz.a7B:Go.Shelf.Ren:=⟨fun|156=>265|165=>274|166=>275|169=>276|240=>283|241=>284|276=>288|277=>289|n=>n,fun|31=>39|9=>9|3=>3|4=>4|0=>0|20=>20|72=>270|76=>274|70=>267|37=>268|75=>273|127=>277|164=>278|5=>5|80=>132|n=>n,fun|n=>n⟩
theorem Tryz.c0R:Go.Proofs.Lays.n156 Tryz.prog Tryz.a7B:={
 mixed:=by kernel_rfl
 f156:=Tryz.func265.trans (congrArg some (by kernel_rfl))
 f165:=Tryz.func274.trans (congrArg some (by kernel_rfl))
 f166:=Tryz.func275.trans (congrArg some (by kernel_rfl))
 f169:=Tryz.func276.trans (congrArg some (by kernel_rfl))
 f240:=Tryz.func283.trans (congrArg some (by kernel_rfl))
 f241:=Tryz.func284.trans (congrArg some (by kernel_rfl))
 f276:=Tryz.func288.trans (congrArg some (by kernel_rfl))
 f277:=Tryz.func289.trans (congrArg some (by kernel_rfl))
 t0:=Tryz.underlying0
 a0:=Tryz.isAgg0
 z0:=Tryz.sizeOf0
 v0:=Tryz.zeroValue0
 t3:=Tryz.underlying3
 a3:=Tryz.isAgg3
 z3:=Tryz.sizeOf3
 v3:=Tryz.zeroValue3
 t4:=Tryz.underlying4
 a4:=Tryz.isAgg4
 z4:=Tryz.sizeOf4
 v4:=Tryz.zeroValue4
 t9:=Tryz.underlying9
 a9:=Tryz.isAgg9
 z9:=Tryz.sizeOf9
 v9:=Tryz.zeroValue9
 t20:=Tryz.underlying20
 a20:=Tryz.isAgg20
 z20:=Tryz.sizeOf20
 v20:=Tryz.zeroValue20
 t31:=Tryz.underlying39
 a31:=Tryz.isAgg39
 z31:=Tryz.sizeOf39
 v31:=Tryz.zeroValue39
 t37:=Tryz.underlying268
 a37:=Tryz.isAgg268
 z37:=Tryz.sizeOf268
 v37:=Tryz.zeroValue268
 t70:=Tryz.underlying267
 a70:=Tryz.isAgg267
 z70:=Tryz.sizeOf267
 v70:=Tryz.zeroValue267
 t72:=Tryz.underlying270
 a72:=Tryz.isAgg270
 z72:=Tryz.sizeOf270
 v72:=Tryz.zeroValue270
 t75:=Tryz.underlying273
 a75:=Tryz.isAgg273
 z75:=Tryz.sizeOf273
 v75:=Tryz.zeroValue273
 t76:=Tryz.underlying274
 a76:=Tryz.isAgg274
 z76:=Tryz.sizeOf274
 v76:=Tryz.zeroValue274
 t127:=Tryz.underlying277
 a127:=Tryz.isAgg277
 z127:=Tryz.sizeOf277
 v127:=Tryz.zeroValue277
 t164:=Tryz.underlying278
 a164:=Tryz.isAgg278
 z164:=Tryz.sizeOf278
 v164:=Tryz.zeroValue278 }
theorem Tryz.yR:Builder.Extra Tryz.prog Tryz.a7B:={
 sizeBuilder:=by kernel_rfl
 liesBuilder:=by kernel_rfl
 t5:=Tryz.underlying5
 a5:=Tryz.isAgg5
 z5:=Tryz.sizeOf5
 v5:=Tryz.zeroValue5
 infoByte:=by kernel_rfl
 cellsByte:=by kernel_rfl
 sizeByte:=by kernel_rfl
 neB5:=by decide }
open Go.RowKit in
theorem Tryz.strings_Join_none (a:Option Addr)(c:Nat)(sep:ByteArray)(w:World):
  Calls Tryz.prog 265 #[.slice a 0 c,.string sep] w fun e w'=>e= .returned (.string ⟨#[]⟩)∧w'=w:=Any.strings_Join_none Tryz.c0R Tryz.yR a c sep w
open Go.RowKit in
theorem Tryz.strings_Join (bk o c:Nat)(xs:List ByteArray)(sep:ByteArray)(w:World)(hcells:∀(j:Nat) x,xs[j]? =some x→w.cell? ⟨bk,o+j,none⟩=some (.string x))(hbk:bk<w.heap.size)(hN:xs.length≤140737488355328)(hcap:xs.length≤c)(hlen:(Lib.join (xs.map (·.data.toList)) sep.data.toList).length≤140737488355328):
  Calls Tryz.prog 265 #[.slice (some ⟨bk,o,none⟩) xs.length c,.string sep] w fun e w'=>e= .returned (.string ⟨(Lib.join (xs.map (·.data.toList)) sep.data.toList).toArray⟩)∧Below w.heap.size w w':=Any.strings_Join Tryz.c0R Tryz.yR bk o c xs sep w hcells hbk hN hcap hlen
def Tryz.b6F:Go.Shelf.Ren:=⟨fun|161=>188|231=>202|227=>203|233=>204|235=>205|228=>225|197=>226|151=>227|260=>245|152=>246|137=>260|119=>261|224=>262|225=>263|217=>270|266=>281|n=>n,fun|9=>9|4=>4|3=>3|5=>5|117=>212|116=>211|0=>0|124=>215|105=>229|21=>21|119=>257|46=>258|139=>261|138=>260|n=>n,fun|3=>2|4=>3|n=>n⟩
theorem Tryz.c9W:Go.Proofs.Lays.n161 Tryz.prog Tryz.b6F:={
 mixed:=by kernel_rfl
 f119:=Tryz.func261.trans (congrArg some (by kernel_rfl))
 f137:=Tryz.func260.trans (congrArg some (by kernel_rfl))
 f151:=Tryz.func227.trans (congrArg some (by kernel_rfl))
 f152:=Tryz.func246.trans (congrArg some (by kernel_rfl))
 f161:=Tryz.func188.trans (congrArg some (by kernel_rfl))
 f197:=Tryz.func226.trans (congrArg some (by kernel_rfl))
 f217:=Tryz.func270.trans (congrArg some (by kernel_rfl))
 f224:=Tryz.func262.trans (congrArg some (by kernel_rfl))
 f225:=Tryz.func263.trans (congrArg some (by kernel_rfl))
 f227:=Tryz.func203.trans (congrArg some (by kernel_rfl))
 f228:=Tryz.func225.trans (congrArg some (by kernel_rfl))
 f231:=Tryz.func202.trans (congrArg some (by kernel_rfl))
 f233:=Tryz.func204.trans (congrArg some (by kernel_rfl))
 f235:=Tryz.func205.trans (congrArg some (by kernel_rfl))
 f260:=Tryz.func245.trans (congrArg some (by kernel_rfl))
 f266:=Tryz.func281.trans (congrArg some (by kernel_rfl))
 t0:=Tryz.underlying0
 a0:=Tryz.isAgg0
 z0:=Tryz.sizeOf0
 v0:=Tryz.zeroValue0
 t3:=Tryz.underlying3
 a3:=Tryz.isAgg3
 z3:=Tryz.sizeOf3
 v3:=Tryz.zeroValue3
 t4:=Tryz.underlying4
 a4:=Tryz.isAgg4
 z4:=Tryz.sizeOf4
 v4:=Tryz.zeroValue4
 t5:=Tryz.underlying5
 a5:=Tryz.isAgg5
 z5:=Tryz.sizeOf5
 v5:=Tryz.zeroValue5
 t9:=Tryz.underlying9
 a9:=Tryz.isAgg9
 z9:=Tryz.sizeOf9
 v9:=Tryz.zeroValue9
 t21:=Tryz.underlying21
 a21:=Tryz.isAgg21
 z21:=Tryz.sizeOf21
 v21:=Tryz.zeroValue21
 t46:=Tryz.underlying258
 a46:=Tryz.isAgg258
 z46:=Tryz.sizeOf258
 v46:=Tryz.zeroValue258
 t105:=Tryz.underlying229
 a105:=Tryz.isAgg229
 z105:=Tryz.sizeOf229
 v105:=Tryz.zeroValue229
 t116:=Tryz.underlying211
 a116:=Tryz.isAgg211
 z116:=Tryz.sizeOf211
 t117:=Tryz.underlying212
 a117:=Tryz.isAgg212
 z117:=Tryz.sizeOf212
 v117:=Tryz.zeroValue212
 t119:=Tryz.underlying257
 a119:=Tryz.isAgg257
 z119:=Tryz.sizeOf257
 t124:=Tryz.underlying215
 a124:=Tryz.isAgg215
 z124:=Tryz.sizeOf215
 v124:=Tryz.zeroValue215
 t138:=Tryz.underlying260
 a138:=Tryz.isAgg260
 z138:=Tryz.sizeOf260
 v138:=Tryz.zeroValue260
 t139:=Tryz.underlying261
 a139:=Tryz.isAgg261
 z139:=Tryz.sizeOf261
 v139:=Tryz.zeroValue261
 g3:=by kernel_rfl
 g4:=by kernel_rfl }
open Go.RowKit in
theorem Tryz.strings_TrimLeft_one (s:ByteArray)(c:UInt8)(hc:c.toNat<128)(w:World):
  Calls Tryz.prog 188 #[.string s,.string ⟨#[c]⟩] w fun e w'=>e= .returned (.string ⟨(Lib.trimLeftB s.data.toList c).toArray⟩)∧w'=w:=Any.strings_TrimLeft_one Tryz.c9W s c hc w
def Tryz.d2r:Go.Shelf.Ren:=⟨fun|206=>190|n=>n,fun|9=>9|4=>4|3=>3|n=>n,fun|n=>n⟩
def Tryz.b9h:Go.Shelf.Ren:=⟨fun|99=>165|206=>190|n=>n,fun|9=>9|4=>4|3=>3|n=>n,fun|n=>n⟩
theorem Tryz.d4o:Go.Proofs.Lays.n99 Tryz.prog Tryz.b9h:={
 mixed:=by kernel_rfl
 f99:=Tryz.func165.trans (congrArg some (by kernel_rfl))
 f206:=Tryz.func190.trans (congrArg some (by kernel_rfl))
 t3:=Tryz.underlying3
 a3:=Tryz.isAgg3
 z3:=Tryz.sizeOf3
 v3:=Tryz.zeroValue3
 t4:=Tryz.underlying4
 a4:=Tryz.isAgg4
 z4:=Tryz.sizeOf4
 v4:=Tryz.zeroValue4
 t9:=Tryz.underlying9
 a9:=Tryz.isAgg9
 z9:=Tryz.sizeOf9
 v9:=Tryz.zeroValue9 }
open Go.RowKit Go.Lib in
theorem Tryz.strings_HasPrefix (s p:ByteArray)(w:World):
  Calls Tryz.prog 165 #[.string s,.string p] w fun e w'=>e= .returned (.bool (Lib.hasPrefix s.data.toList p.data.toList))∧w'=w:=Any.strings_HasPrefix Tryz.d4o s p w
end Go.Proofs
end
section
namespace Go.Proofs.YtjpodcmhcenjjaaGreatDoor
open Go Go.VM
variable {G:GT}
theorem b6G:VM.Enters Tryz.prog 189:=VM.Enters.mk Tryz.func189 rfl
theorem c4R {c:UInt8}(h:tV c=true):IntKind.i64.wrap (IntKind.u8.wrap ((c.toNat:Int)-48))=((c.toNat-48:Nat):Int):=by
 have:=sV.1 h;have e:IntKind.u8.wrap ((c.toNat:Int)-48)=((c.toNat-48:Nat):Int):=by unfold IntKind.wrap;simp [IntKind.bits,IntKind.signed];omega
 rw [e];exact wrap64 (by omega)
theorem a0G:∀(n:Nat) (l:List UInt8),l.length=n→(∀c∈l,tV c=true)→kD l<10 ^ n:=by
 intro n
 induction n with
 |zero=>intro l hl _;rw [List.length_eq_zero_iff.1 hl];simp [a5m]
 |succ n ih=>
  intro l hl h;have hne:l≠[]:=fun e=>by rw [e] at hl;simp at hl
  have hs:=List.dropLast_concat_getLast hne;have hc:=sV.1 (h _ (List.getLast_mem hne));have:=ih l.dropLast (by simp;omega) fun c hc=>h c (List.dropLast_subset _ hc)
  rw [← hs,b2E,Nat.pow_succ];omega
theorem c4S {s:List UInt8}(h:0<s.length):a6u s=decide (s[0].toNat=45):=by
 cases s with
 |nil=>simp at h
 |cons c r=>simp only [a6u,List.head?_cons,d8J,List.getElem_cons_zero];have:c=45↔c.toNat=45:=⟨fun e=>by rw [e];rfl,fun e=>UInt8.toNat.inj (by simpa using e)⟩;simp [this]
theorem c0S {s:List UInt8}(h:0<s.length):(s.head? =some 48)↔s[0].toNat=48:=by
 cases s with
 |nil=>simp at h
 |cons c r=>simp only [List.head?_cons,d8J,List.getElem_cons_zero];exact ⟨fun e=>by rw [e];rfl,fun e=>UInt8.toNat.inj (by simpa using e)⟩
theorem b9i (s:List UInt8):CS Tryz.prog G 189 [.str s] (.cT [.int .i64 (oV s).1,.bool (oV s).2]) none:=by
 refine CS.bH Tryz.func189 rfl Tryz.ntmps189 rfl ?_
 by_cases h0:0<s.length;rotate_left
 ·have:s=[]:=List.length_eq_zero_iff.1 (by omega);subst this;simp [oV,pB,oJ,a6u]
 by_cases hc:s[0].toNat=45
 ·obtain ⟨ds,hds⟩:∃ds,s.tail=ds:=⟨_,rfl⟩;have hneg:a6u s=true:=by rw [c4S h0];simp [hc]
  have hbody:oJ s=ds:=by unfold oJ;rw [hneg, ← hds];simp
  have hle:1≤s.length:=h0;simp [h0,hc,hds,hle];by_cases e0:ds.length=0
  ·first
   |(exfalso;omega;done)
   |(have hf:pB s=false:=by unfold pB;rw [hbody];simp [e0]
     have e1:ds=[]:=List.length_eq_zero_iff.1 e0;simp [hbody,e1,oV,hf])
  have e1:0<ds.length:=by omega
  have e2: ¬ds=[]:=fun e=>e0 (by rw [e];rfl)
  by_cases hl:13<ds.length
  ·have hf:pB s=false:=by unfold pB;rw [hbody];simp;omega
   simp [hbody,e0,e2,hl,oV,hf]
  have hh:=c0S e1;by_cases hd:ds[0].toNat=48
  ·have hf:pB s=false:=by simp [pB,hbody,hneg,hh.2 hd]
   simp [e0,e1,e2,hl,hd,oV,hf]
  have hd': ¬ds.head? =some 48:=fun e=>hd (hh.1 e)
  have hform:pB s=true:=by simp [pB,hbody,hneg,hd'];omega
  simp [e0,e1,e2,hl,hd];have hlen:ds.length≤13:=by have:=hform;simp only [pB,d8D,decide_eq_true_eq,hbody] at this;exact this.1.2
  refine SW.kJ (ι:={ i:Nat // i≤ds.length∧∀c∈ds.take i,tV c=true }) (fun i=>[(6,.d (.int .i64 (kD (ds.take i.1):Nat))),(43,.d (.int .i64 i.1))]) (fun _=>[]) (fun _=>[]) (fun i=>ds.length-i.1) ⟨0,by simp⟩ (by simp [a5m]) ?_
  rintro ⟨i,hi,ht⟩;by_cases hlt:i<ds.length
  ·have hw:=bP (show i<9223372036854775807 by omega);by_cases hd:tV ds[i]=true
   ·have hv:=a0G _ (ds.take (i+1)) rfl fun c hc=>by
     rw [d8S hlt] at hc;rcases List.mem_append.1 hc with hc|hc
     ·exact ht c hc
     ·rw [d8K] at hc;rw [hc];exact hd
    have hp:10 ^ (ds.take (i+1)).length≤10 ^ 13:=Nat.pow_le_pow_right (by omega) (by simp;omega);rw [wQ hlt] at hv;have hdd:=sV.1 hd;have h48: ¬ds[i].toNat<48:=by omega
    have h57: ¬57<ds[i].toNat:=by omega
    have w1:IntKind.i64.wrap (10*((kD (ds.take i):Nat):Int))=10*((kD (ds.take i):Nat):Int):=wrap64 (by omega);have w2:=c4R hd;have w3:IntKind.i64.wrap (10*((kD (ds.take i):Nat):Int)+((ds[i].toNat-48:Nat):Int))=((kD (ds.take (i+1)):Nat):Int):=by rw [wQ hlt,wrap64 (by omega)];simp
    simp [hlt,h48,h57,w1,w2,w3];exact bR.mk ⟨i+1,hlt,fun c hc=>by
     rw [d8S hlt] at hc;rcases List.mem_append.1 hc with hc|hc
     ·exact ht c hc
     ·rw [d8K] at hc;rw [hc];exact hd⟩ (by simp [hw]) (by simp;omega)
   ·have hbad:(oJ s).all tV=false:=by
     cases h:(oJ s).all tV
     ·rfl
     ·rw [hbody,d8G] at h;exact absurd (h _ (List.getElem_mem hlt)) hd
    by_cases h48:ds[i].toNat<48
    ·simp [hlt,h48,wR hbad]
    ·have h57:57<ds[i].toNat:=by rw [sV] at hd;omega
     simp [hlt,h48,h57,wR hbad]
  ·have hi':i=ds.length:=by omega
   subst hi';rw [List.take_length] at ht;have hall:(oJ s).all tV=true:=by rw [hbody,d8G];exact ht
   have hv:=a0G _ ds rfl ht;have hp:10 ^ ds.length≤10 ^ 13:=Nat.pow_le_pow_right (by omega) hlen;have hres:oV s=chk (sgn (a6u s) (kD (oJ s))) true:=by simp [oV,hform,hall]
   rw [hneg,hbody] at hres;simp [sgn] at hres;have w1:IntKind.i64.wrap (-((kD ds:Nat):Int))= -((kD ds:Nat):Int):=wrap64 (by omega);simp [w1];refine aI.mk zJ (a0F _ _) ?_
   simp [hres]
 ·have hneg:a6u s=false:=by rw [c4S h0];simp [hc]
  have hbody:oJ s=s:=by unfold oJ;rw [hneg];rfl
  simp [h0,hc];by_cases e0:s.length=0
  ·first
   |(exfalso;omega;done)
   |(have hf:pB s=false:=by unfold pB;rw [hbody];simp [e0]
     have e1:s=[]:=List.length_eq_zero_iff.1 e0;simp [hbody,e1,oV,hf])
  have e1:0<s.length:=by omega
  have e2: ¬s=[]:=fun e=>e0 (by rw [e];rfl)
  by_cases hl:13<s.length
  ·have hf:pB s=false:=by unfold pB;rw [hbody];simp;omega
   simp [hbody,e0,e2,hl,oV,hf]
  have hh:=c0S e1;by_cases hd:s[0].toNat=48
  ·by_cases h1:1<s.length
   ·have hf:pB s=false:=by simp [pB,hbody,hh.2 hd,h1]
    simp [e0,e1,e2,hl,hd,h1,oV,hf]
   ·have hform:pB s=true:=by simp [pB,hbody,hneg,h1];omega
    simp [e0,e1,e2,hl,hd,h1];have hlen:s.length≤13:=by have:=hform;simp only [pB,d8D,decide_eq_true_eq,hbody] at this;exact this.1.2
    refine SW.kJ (ι:={ i:Nat // i≤s.length∧∀c∈s.take i,tV c=true }) (fun i=>[(6,.d (.int .i64 (kD (s.take i.1):Nat))),(43,.d (.int .i64 i.1))]) (fun _=>[]) (fun _=>[]) (fun i=>s.length-i.1) ⟨0,by simp⟩ (by simp [a5m]) ?_
    rintro ⟨i,hi,ht⟩;by_cases hlt:i<s.length
    ·have hw:=bP (show i<9223372036854775807 by omega);by_cases hd:tV s[i]=true
     ·have hv:=a0G _ (s.take (i+1)) rfl fun c hc=>by
       rw [d8S hlt] at hc;rcases List.mem_append.1 hc with hc|hc
       ·exact ht c hc
       ·rw [d8K] at hc;rw [hc];exact hd
      have hp:10 ^ (s.take (i+1)).length≤10 ^ 13:=Nat.pow_le_pow_right (by omega) (by simp;omega);rw [wQ hlt] at hv;have hdd:=sV.1 hd;have h48: ¬s[i].toNat<48:=by omega
      have h57: ¬57<s[i].toNat:=by omega
      have w1:IntKind.i64.wrap (10*((kD (s.take i):Nat):Int))=10*((kD (s.take i):Nat):Int):=wrap64 (by omega);have w2:=c4R hd;have w3:IntKind.i64.wrap (10*((kD (s.take i):Nat):Int)+((s[i].toNat-48:Nat):Int))=((kD (s.take (i+1)):Nat):Int):=by rw [wQ hlt,wrap64 (by omega)];simp
      simp [hlt,h48,h57,w1,w2,w3];exact bR.mk ⟨i+1,hlt,fun c hc=>by
       rw [d8S hlt] at hc;rcases List.mem_append.1 hc with hc|hc
       ·exact ht c hc
       ·rw [d8K] at hc;rw [hc];exact hd⟩ (by simp [hw]) (by simp;omega)
     ·have hbad:(oJ s).all tV=false:=by
       cases h:(oJ s).all tV
       ·rfl
       ·rw [hbody,d8G] at h;exact absurd (h _ (List.getElem_mem hlt)) hd
      by_cases h48:s[i].toNat<48
      ·simp [hlt,h48,wR hbad]
      ·have h57:57<s[i].toNat:=by rw [sV] at hd;omega
       simp [hlt,h48,h57,wR hbad]
    ·have hi':i=s.length:=by omega
     subst hi';rw [List.take_length] at ht;have hall:(oJ s).all tV=true:=by rw [hbody,d8G];exact ht
     have hv:=a0G _ s rfl ht;have hp:10 ^ s.length≤10 ^ 13:=Nat.pow_le_pow_right (by omega) hlen;have hres:oV s=chk (sgn (a6u s) (kD (oJ s))) true:=by simp [oV,hform,hall]
     rw [hneg,hbody] at hres;simp [sgn] at hres;have w1:IntKind.i64.wrap (-((kD s:Nat):Int))= -((kD s:Nat):Int):=wrap64 (by omega);simp [w1];refine aI.mk zJ (a0F _ _) ?_
     simp [hres]
  ·have hd': ¬s.head? =some 48:=fun e=>hd (hh.1 e)
   have hform:pB s=true:=by simp [pB,hbody,hd'];omega
   simp [e0,e1,e2,hl,hd];have hlen:s.length≤13:=by have:=hform;simp only [pB,d8D,decide_eq_true_eq,hbody] at this;exact this.1.2
   refine SW.kJ (ι:={ i:Nat // i≤s.length∧∀c∈s.take i,tV c=true }) (fun i=>[(6,.d (.int .i64 (kD (s.take i.1):Nat))),(43,.d (.int .i64 i.1))]) (fun _=>[]) (fun _=>[]) (fun i=>s.length-i.1) ⟨0,by simp⟩ (by simp [a5m]) ?_
   rintro ⟨i,hi,ht⟩;by_cases hlt:i<s.length
   ·have hw:=bP (show i<9223372036854775807 by omega);by_cases hd:tV s[i]=true
    ·have hv:=a0G _ (s.take (i+1)) rfl fun c hc=>by
      rw [d8S hlt] at hc;rcases List.mem_append.1 hc with hc|hc
      ·exact ht c hc
      ·rw [d8K] at hc;rw [hc];exact hd
     have hp:10 ^ (s.take (i+1)).length≤10 ^ 13:=Nat.pow_le_pow_right (by omega) (by simp;omega);rw [wQ hlt] at hv;have hdd:=sV.1 hd;have h48: ¬s[i].toNat<48:=by omega
     have h57: ¬57<s[i].toNat:=by omega
     have w1:IntKind.i64.wrap (10*((kD (s.take i):Nat):Int))=10*((kD (s.take i):Nat):Int):=wrap64 (by omega);have w2:=c4R hd;have w3:IntKind.i64.wrap (10*((kD (s.take i):Nat):Int)+((s[i].toNat-48:Nat):Int))=((kD (s.take (i+1)):Nat):Int):=by rw [wQ hlt,wrap64 (by omega)];simp
     simp [hlt,h48,h57,w1,w2,w3];exact bR.mk ⟨i+1,hlt,fun c hc=>by
      rw [d8S hlt] at hc;rcases List.mem_append.1 hc with hc|hc
      ·exact ht c hc
      ·rw [d8K] at hc;rw [hc];exact hd⟩ (by simp [hw]) (by simp;omega)
    ·have hbad:(oJ s).all tV=false:=by
      cases h:(oJ s).all tV
      ·rfl
      ·rw [hbody,d8G] at h;exact absurd (h _ (List.getElem_mem hlt)) hd
     by_cases h48:s[i].toNat<48
     ·simp [hlt,h48,wR hbad]
     ·have h57:57<s[i].toNat:=by rw [sV] at hd;omega
      simp [hlt,h48,h57,wR hbad]
   ·have hi':i=s.length:=by omega
    subst hi';rw [List.take_length] at ht;have hall:(oJ s).all tV=true:=by rw [hbody,d8G];exact ht
    have hv:=a0G _ s rfl ht;have hp:10 ^ s.length≤10 ^ 13:=Nat.pow_le_pow_right (by omega) hlen;have hres:oV s=chk (sgn (a6u s) (kD (oJ s))) true:=by simp [oV,hform,hall]
    rw [hneg,hbody] at hres;simp [sgn] at hres;have w1:IntKind.i64.wrap (-((kD s:Nat):Int))= -((kD s:Nat):Int):=wrap64 (by omega);simp [w1];refine aI.mk zJ (a0F _ _) ?_
    simp [hres]
end Go.Proofs.YtjpodcmhcenjjaaGreatDoor
end
end
section
section
namespace Go.Proofs.YtjpodcmhcenjjaaGreatDoor
structure Tok where
 kind:Int
 text:List UInt8
 n:Int
 line:Int
 deriving DecidableEq
def smU (b:UInt8):Bool:=decide (97≤b.toNat∧b.toNat≤122)
def caU (b:UInt8):Bool:=decide (65≤b.toNat∧b.toNat≤90)
def dgU (b:UInt8):Bool:=decide (48≤b.toNat∧b.toNat≤57)
def inU (b:UInt8):Bool:=smU b||caU b||dgU b||decide (b.toNat=95)
def dY:List (List UInt8):=[[60,61,62],[45,62],[61,62],[60,61],[62,61],[33,61],[61,61],[38,38],[124,124],[43],[45],[42],[47],[37],[40],[41],[123],[125],[91],[93],[60],[62],[61],[124],[44],[58],[59],[46],[33],[63],[39]]
def kQ (s:List UInt8):List UInt8:=(dY.find? fun t=>t.isPrefixOf s).getD []
def c9X (b:UInt8):Bool:=decide (b=10)||decide (b=32)||decide (b=9)
section
variable (num:List UInt8→Int×Bool)
def firstT (s:List UInt8):Int×List UInt8×Int×Bool:=
 match s with
 |[]=>(0,[],0,false)
 |c::r=>
  if smU c then (1,(c::r).takeWhile inU,0,true)
  else if caU c then (2,(c::r).takeWhile inU,0,true)
  else if dgU c then (3,(c::r).takeWhile dgU,(num ((c::r).takeWhile dgU)).1,(num ((c::r).takeWhile dgU)).2)
  else if kQ (c::r)=[] then (0,[],0,false)
  else (4,kQ (c::r),0,true)
def dL:List UInt8→Nat→Int→Bool→Except Int (List Tok)
 |[],_,ln,_=> .ok [⟨0,[],0,ln⟩]
 |_::r,k+1,ln,cm=>dL r k ln cm
 |c::r,0,ln,cm=>
  if c=10 then dL r 0 (ln+1) false
  else if cm=true∨c=32∨c=9 then dL r 0 ln cm
  else if c=35 then dL r 0 ln true
  else if (firstT num (c::r)).2.2.2 then
   match dL r ((firstT num (c::r)).2.1.length-1) ln false with
   | .ok l=> .ok (⟨(firstT num (c::r)).1,(firstT num (c::r)).2.1,(firstT num (c::r)).2.2.1,ln⟩::l)
   | .error e=> .error e
  else .error ln
variable {num}
theorem d6g {b:UInt8}(h:smU b=true):inU b=true:=by simp [inU,h]
theorem d6h {b:UInt8}(h:caU b=true):inU b=true:=by simp [inU,h]
theorem d6i {b:UInt8}(h:dgU b=true):inU b=true:=by simp [inU,h]
theorem zK {p:UInt8→Bool}{rest:List UInt8}(h:∀b,rest.head? =some b→p b=false):∀s:List UInt8,(s++rest).takeWhile p=s.takeWhile p
 |[]=>by
  cases rest with
  |nil=>rfl
  |cons b r=>simp [List.takeWhile,h b rfl]
 |c::s=>by simp only [List.cons_append,List.takeWhile_cons,zK h s]
theorem b9j:∀t∈dY,∀b∈t,c9X b=false:=by decide
theorem a9v:∀(t s rest:List UInt8),(∀b,rest.head? =some b→c9X b=true)→(∀b∈t,c9X b=false)→t.isPrefixOf (s++rest)=t.isPrefixOf s
 |[],s,rest,_,_=>by simp [List.isPrefixOf]
 |x::t,[],rest,h,ht=>by
  cases rest with
  |nil=>rfl
  |cons b r=>
   have h1:=h b rfl;have h2:=ht x (.head _);have:(x==b)=false:=by rw [beq_eq_false_iff_ne];rintro rfl;rw [h1] at h2;cases h2
   simp [List.isPrefixOf,this]
 |x::t,c::s,rest,h,ht=>by simp only [List.cons_append,List.isPrefixOf,a9v t s rest h fun b hb=>ht b (.tail _ hb)]
theorem find_congr {α:Type}{p q:α→Bool}:∀ {l:List α},(∀x∈l,p x=q x)→l.find? p=l.find? q
 |[],_=>rfl
 |x::l,h=>by simp only [List.find?_cons,h x (.head _),find_congr fun y hy=>h y (.tail _ hy)]
theorem c4T {s rest:List UInt8}(h:∀b,rest.head? =some b→c9X b=true):kQ (s++rest)=kQ s:=by unfold kQ;rw [find_congr fun t ht=>a9v t s rest h (b9j t ht)]
theorem a9w {s:List UInt8}(h:kQ s≠[]):kQ s∈dY∧kQ s <+:s:=by
 unfold kQ at h ⊢;cases hf:dY.find? fun t=>t.isPrefixOf s with
 |none=>rw [hf] at h;simp at h
 |some t=>exact ⟨List.mem_of_find?_eq_some hf,List.isPrefixOf_iff_prefix.1 (by simpa using List.find?_some hf)⟩
theorem b2F:∀t∈dY,kQ t=t:=by decide
theorem uN (p:UInt8→Bool):∀s:List UInt8,s.takeWhile p <+:s:=fun s=>List.takeWhile_prefix p
theorem sW (p:UInt8→Bool):∀s:List UInt8,(s.takeWhile p).takeWhile p=s.takeWhile p
 |[]=>rfl
 |c::s=>by
  rw [List.takeWhile_cons];split
  ·rename_i hc;rw [List.takeWhile_cons,if_pos hc,sW p s]
  ·rfl
theorem xM {p:UInt8→Bool}{c:UInt8}{r:List UInt8}(h:p c=true):(c::r).takeWhile p=c::r.takeWhile p:=by rw [List.takeWhile_cons,if_pos h]
theorem a0c {s:List UInt8}(h:(firstT num s).2.2.2=true):(firstT num s).2.1≠[]∧(firstT num s).2.1 <+:s∧firstT num (firstT num s).2.1=firstT num s:=by
 cases s with
 |nil=>simp [firstT] at h
 |cons c r=>
  by_cases h1:smU c=true
  ·have hw:=xM (r:=r) (d6g h1);have hs:=sW inU (c::r);have hp:=uN inU (c::r);simp only [firstT,h1,if_true] at h ⊢;rw [hw] at hs hp ⊢;refine ⟨by simp,hp,?_⟩;simp only [firstT,h1,if_true,hs]
  ·have h1:smU c=false:=by simpa using h1
   by_cases h2:caU c=true
   ·have hw:=xM (r:=r) (d6h h2);have hs:=sW inU (c::r);have hp:=uN inU (c::r);simp only [firstT,h1,h2,if_true,Bool.false_eq_true,if_false] at h ⊢;rw [hw] at hs hp ⊢;refine ⟨by simp,hp,?_⟩;simp only [firstT,h1,h2,if_true,Bool.false_eq_true,if_false,hs]
   ·have h2:caU c=false:=by simpa using h2
    by_cases h3:dgU c=true
    ·have hw:=xM (r:=r) h3;have hs:=sW dgU (c::r);have hp:=uN dgU (c::r);simp only [firstT,h1,h2,h3,if_true,Bool.false_eq_true,if_false] at h ⊢;rw [hw] at hs hp ⊢;refine ⟨by simp,hp,?_⟩;simp only [firstT,h1,h2,h3,if_true,Bool.false_eq_true,if_false,hs]
    ·have h3:dgU c=false:=by simpa using h3
     by_cases h4:kQ (c::r)=[]
     ·simp [firstT,h1,h2,h3,h4] at h
     ·obtain ⟨hm,hp⟩:=a9w h4;have hself:=b2F _ hm;simp only [firstT,h1,h2,h3,h4,Bool.false_eq_true,if_false] at h ⊢;refine ⟨h4,hp,?_⟩;obtain ⟨t,ht⟩:∃t,kQ (c::r)=t:=⟨_,rfl⟩;rw [ht] at h4 hp hself ⊢;cases t with
      |nil=>exact absurd rfl h4
      |cons d t'=>
       have hd:d=c:=by obtain ⟨u,hu⟩:=hp;simp only [List.cons_append,List.cons.injEq] at hu;exact hu.1
       subst hd;simp only [firstT,h1,h2,h3,Bool.false_eq_true,if_false,hself];simp
theorem a5n {c:UInt8}{r:List UInt8}(h:c=10∨c=32∨c=9∨c=35):(firstT num (c::r)).2.2.2=false:=by
 have hs:kQ (c::r)=[]:=by rcases h with rfl|rfl|rfl|rfl<;>(simp [kQ,dY,List.find?_cons,List.isPrefixOf])
 have h1:smU c=false:=by rcases h with rfl|rfl|rfl|rfl<;>decide
 have h2:caU c=false:=by rcases h with rfl|rfl|rfl|rfl<;>decide
 have h3:dgU c=false:=by rcases h with rfl|rfl|rfl|rfl<;>decide
 simp [firstT,h1,h2,h3,hs]
theorem b9k {c:UInt8}{r:List UInt8}(h:(firstT num (c::r)).2.2.2=true):c≠10∧c≠32∧c≠9∧c≠35:=by
 refine ⟨?_,?_,?_,?_⟩
 ·intro e;rw [a5n (.inl e)] at h;cases h
 ·intro e;rw [a5n (.inr (.inl e))] at h;cases h
 ·intro e;rw [a5n (.inr (.inr (.inl e)))] at h;cases h
 ·intro e;rw [a5n (.inr (.inr (.inr e)))] at h;cases h
theorem a6v:∀(s:List UInt8) (k:Nat) (ln:Int) (cm:Bool),k≤s.length→dL num s k ln cm=dL num (s.drop k) 0 ln cm
 |[],k,ln,cm,h=>by
  have:k=0:=by simpa using h
  subst this
  rfl
 |c::r,0,ln,cm,_=>by rfl
 |c::r,k+1,ln,cm,h=>by
  rw [List.drop_succ_cons];simp only [List.length_cons] at h;rw [← a6v r k ln cm (by omega)]
  rfl
end
end Go.Proofs.YtjpodcmhcenjjaaGreatDoor
end
section
namespace Go.Proofs.YtjpodcmhcenjjaaGreatDoor
section
variable {num:List UInt8→Int×Bool}
theorem b9l {c:UInt8}{r:List UInt8}(ln:Int)(h1:c≠10)(h2:c≠32)(h3:c≠9)(h4:c≠35):dL num (c::r) 0 ln false=if (firstT num (c::r)).2.2.2 then
   (match dL num ((c::r).drop (firstT num (c::r)).2.1.length) 0 ln false with
   | .ok l=> .ok (⟨(firstT num (c::r)).1,(firstT num (c::r)).2.1,(firstT num (c::r)).2.2.1,ln⟩::l)
   | .error e=> .error e)
  else .error ln:=by
 conv=>lhs;rw [dL]
 rw [if_neg h1,if_neg (by simp [h2,h3]),if_neg h4];split
 ·rename_i hok;obtain ⟨q1,q2,_⟩:=a0c hok;obtain ⟨tx,htx⟩:∃tx,(firstT num (c::r)).2.1=tx:=⟨_,rfl⟩;rw [htx] at q1 q2 ⊢;have hl:0<tx.length:=List.length_pos_iff.2 q1;have hle:=q2.length_le;simp only [List.length_cons] at hle;rw [a6v r (tx.length-1) ln false (by omega)];have:(c::r).drop tx.length=r.drop (tx.length-1):=by
   conv=>lhs;rw [show tx.length=(tx.length-1)+1 by omega]
   rfl
  rw [this]
  try rfl
 ·rfl
inductive OkT (num:List UInt8→Int×Bool):List Tok→Int→Prop
 |fin (ln l:Int):ln≤l→OkT num [⟨0,[],0,l⟩] ln
 |cons (t:Tok) (r:List Tok) (ln:Int):ln≤t.line→firstT num t.text=(t.kind,t.text,t.n,true)→OkT num r t.line→OkT num (t::r) ln
theorem OkT.mono {l:List Tok}{ln ln':Int}(h:OkT num l ln)(hl:ln'≤ln):OkT num l ln':=by
 cases h with
 |fin _ l hle=>exact .fin _ _ (by omega)
 |cons t r _ h1 h2 h3=>exact .cons t r _ (by omega) h2 h3
theorem b9m {s:List UInt8}(h:(firstT num s).2.2.2=true):1≤(firstT num s).1∧(firstT num s).1≤4:=by
 cases s with
 |nil=>simp [firstT] at h
 |cons c r=>
  simp only [firstT] at h ⊢;split at h
  ·rename_i h1;simp [h1]
  ·rename_i h1;split at h
   ·rename_i h2;simp [h1,h2]
   ·rename_i h2;split at h
    ·rename_i h3;simp [h1,h2,h3]
    ·rename_i h3;split at h
     ·cases h
     ·rename_i h4;simp [h1,h2,h3,h4]
theorem sX:∀(s:List UInt8) (k:Nat) (ln:Int) (cm:Bool) (l:List Tok),dL num s k ln cm= .ok l→OkT num l ln
 |[],k,ln,cm,l,h=>by simp only [dL,Except.ok.injEq] at h;subst h;exact .fin _ _ (Int.le_refl _)
 |c::r,k+1,ln,cm,l,h=>by rw [dL] at h;exact sX r k ln cm l h
 |c::r,0,ln,cm,l,h=>by
  rw [dL] at h;split at h
  ·exact (sX r 0 _ _ l h).mono (by omega)
  ·split at h
   ·exact sX r 0 _ _ l h
   ·split at h
    ·exact sX r 0 _ _ l h
    ·split at h
     ·rename_i hok;split at h
      ·rename_i l' hl;simp only [Except.ok.injEq] at h;subst h;obtain ⟨q1,q2,q3⟩:=a0c hok;refine .cons _ _ _ (Int.le_refl _) ?_ (sX r _ _ _ l' hl)
       simp only;rw [q3, ← hok]
      ·cases h
     ·cases h
def cP (d:Int)(t:Tok):Tok:=⟨t.kind,t.text,t.n,t.line+d⟩
def a6w (d:Int):Except Int (List Tok)→Except Int (List Tok)
 | .ok l=> .ok (l.map (cP d))
 | .error e=> .error (e+d)
theorem tW (d:Int):∀(s:List UInt8) (k:Nat) (ln:Int) (cm:Bool),dL num s k (ln+d) cm=a6w d (dL num s k ln cm)
 |[],k,ln,cm=>by simp [dL,a6w,cP]
 |c::r,k+1,ln,cm=>by rw [dL,dL];exact tW d r k ln cm
 |c::r,0,ln,cm=>by
  have e:ln+d+1=ln+1+d:=by omega
  conv=>lhs;rw [dL]
  conv=>rhs;rw [dL]
  rw [e,tW d r 0 (ln+1) false,tW d r 0 ln cm,tW d r 0 ln true,tW d r _ ln false];split
  ·rfl
  ·split
   ·rfl
   ·split
    ·rfl
    ·split
     ·cases dL num r ((firstT num (c::r)).2.1.length-1) ln false with
      |ok l=>simp [a6w,cP]
      |error e=>simp [a6w]
     ·simp [a6w]
end
end Go.Proofs.YtjpodcmhcenjjaaGreatDoor
end
section
namespace Go.Proofs.YtjpodcmhcenjjaaGreatDoor
open Go
theorem b4b {s:List UInt8}{i:Nat}(h:i<s.length):((⟨s.toArray⟩:ByteArray).get! i)=s[i]:=by
 show (s.toArray)[i]! =s[i]
 simp [h]
theorem c9Y (s:List UInt8):(⟨s.toArray⟩:ByteArray).size=s.length:=by
 show s.toArray.size=s.length
 simp
theorem c4V {s:List UInt8}{i:Nat}(h:i<s.length)(hb:s[i].toNat<128):Utf8.decode ⟨s.toArray⟩ i=(s[i].toNat,1):=by rw [Lib.decode_at,b4b h];unfold Lib.decodeN;rw [if_pos hb]
theorem c4W {s:List UInt8}{i:Nat}(h:i<s.length)(hb:128≤s[i].toNat):128≤(Utf8.decode ⟨s.toArray⟩ i).1∧1≤(Utf8.decode ⟨s.toArray⟩ i).2∧i+(Utf8.decode ⟨s.toArray⟩ i).2≤s.length∧
  ∀j,i≤j→j<i+(Utf8.decode ⟨s.toArray⟩ i).2→∃h:j<s.length,128≤s[j].toNat:=by
 rw [Lib.decode_at,b4b h,c9Y];have at1:∀k,i+k<s.length→((⟨s.toArray⟩:ByteArray).get! (i+k))=s[i+k]! :=fun k hk=>by rw [b4b hk];simp [hk]
 have two:∀(j:Nat) (hj:j<s.length),s[j].toNat/64=2→128≤s[j].toNat:=fun j hj h=>by omega
 have key:∀k,i+k<s.length→((⟨s.toArray⟩:ByteArray).get! (i+k)).toNat/64=2→∃h:i+k<s.length,128≤s[i+k].toNat:=fun k hk h=>by rw [b4b hk] at h;exact ⟨hk,two _ hk h⟩
 rcases Lib.decodeN_shape (s.length-i) s[i].toNat ((⟨s.toArray⟩:ByteArray).get! (i+1)).toNat ((⟨s.toArray⟩:ByteArray).get! (i+2)).toNat ((⟨s.toArray⟩:ByteArray).get! (i+3)).toNat with h1|h1|h1|h1|h1
 ·omega
 ·obtain ⟨a,b,c,d,e⟩:=h1;rw [e];refine ⟨by simp only;omega,by simp,by simp only;omega,fun j hj hj2=>?_⟩;simp only at hj2;rcases (show j=i∨j=i+1 by omega) with rfl|rfl
  ·exact ⟨h,hb⟩
  ·exact key 1 (by omega) c
 ·obtain ⟨a,b,c,d,f,g,e⟩:=h1;rw [e];refine ⟨by simp only;omega,by simp,by simp only;omega,fun j hj hj2=>?_⟩;simp only at hj2;rcases (show j=i∨j=i+1∨j=i+2 by omega) with rfl|rfl|rfl
  ·exact ⟨h,hb⟩
  ·exact key 1 (by omega) c
  ·exact key 2 (by omega) d
 ·obtain ⟨a,b,c,d,f,g,k,e⟩:=h1;rw [e];refine ⟨by simp only;omega,by simp,by simp only;omega,fun j hj hj2=>?_⟩;simp only at hj2;rcases (show j=i∨j=i+1∨j=i+2∨j=i+3 by omega) with rfl|rfl|rfl|rfl
  ·exact ⟨h,hb⟩
  ·exact key 1 (by omega) c
  ·exact key 2 (by omega) d
  ·exact key 3 (by omega) f
 ·rw [h1];refine ⟨by simp,by simp,by simp only;omega,fun j hj hj2=>?_⟩;simp only at hj2;rcases (show j=i by omega) with rfl
  exact ⟨h,hb⟩
end Go.Proofs.YtjpodcmhcenjjaaGreatDoor
end
end
section
namespace Go.VM
open Go Go.RowKit Go.ChangeShapes Go.WideShapes Go.Proofs.YtjpodcmhcenjjaaGreatDoor
mutual
def szD:D→Nat
 | .str s=>s.length+1
 | .sl es=>b4c es+1
 | .agg ds=>szL ds
 | .int _ _=>1
 | .bool _=>1
 | .aN=>1
def szL:List D→Nat
 |[]=>0
 |d::r=>szD d+szL r
def b4c:List (List D)→Nat
 |[]=>0
 |l::r=>szL l+b4c r
end
theorem a9x:∀a b:List D,szL (a++b)=szL a+szL b
 |[],b=>by simp [szL]
 |d::a,b=>by have:=a9x a b;simp only [List.cons_append,szL,this];omega
mutual
theorem b4d {H:Type}:∀d:DataW H,szL (flat d)≤Rows.uptoBulk d
 | .lit (.int k n)=>by simp [flat,szL,szD,Rows.uptoBulk]
 | .lit (.bool b)=>by simp [flat,szL,szD,Rows.uptoBulk]
 | .lit (.string s)=>by simp [flat,szL,szD,Rows.uptoBulk]
 | .nil=>by simp [flat,szL,szD,b4c,Rows.uptoBulk]
 | .slice es sp=>by have:=b2G es;simp only [flat,szL,szD,Rows.uptoBulk];omega
 | .agg ps=>by have:=b6H ps;simp only [flat,Rows.uptoBulk];omega
 | .lit (.float .f32 _)=>by simp [flat,szL]
 | .lit (.float .f64 _)=>by simp [flat,szL]
 | .lit .nil=>by simp [flat,szL]
 | .ptr d=>by simp [flat,szL]
 | .iface _ d=>by simp [flat,szL]
 | .map es=>by simp [flat,szL]
 | .held _=>by simp [flat,szL]
theorem b2G {H:Type}:∀l:List (DataW H),b4c (vE l)≤Rows.uptoBulkAll l
 |[]=>by simp [vE,b4c]
 |d::r=>by have h1:=b4d d;have h2:=b2G r;simp only [vE,b4c,Rows.uptoBulkAll];omega
theorem b6H {H:Type}:∀l:List (DataW H),szL (sU l)≤Rows.uptoBulkAll l
 |[]=>by simp [sU,szL]
 |d::r=>by have h1:=b4d d;have h2:=b6H r;simp only [sU,a9x,Rows.uptoBulkAll];omega
end
section
variable {P:Program} {H:Type} {enc:TypeId×Value→H} {w:World} {sp:Nat→Bool} {held:Bool} {L:List TypeId}
theorem b6I {r:Reach}{b0:Nat}(sO:laidOutB P=true)(hp:yP P L=true){t:TypeId}{v:Value}{d:DataW H}{ps:List MemPlace}(hT:L.contains t=true)(hval:Value.okWide P w r b0 t v)(h:DataW.Trod enc P w 0 sp held t v d ps):
  ∃x,a3G P t x∧V (RW w) w v x∧szD x=szL (flat d):=by
 obtain ⟨n,hn⟩:=h;obtain ⟨h1,h2,h3⟩:=a6r sO hp n t _ _ hT hn;have hrow:=d8G.1 hp t (by simpa using hT);simp only [d8D,decide_eq_true_eq] at hrow;obtain ⟨_,hrow⟩:=hrow;cases hu:P.underlying t with
 |none=>rw [hu] at hrow;cases hrow
 |some u=>
  cases ha:mI u with
  |true=>
   have hv:∃cs:Array Value,v= .agg cs:=by
    unfold Value.okWide at hval;rw [hu] at hval;cases u<;>simp only [mI] at ha<;>(try cases ha)
    ·obtain ⟨cs,hv,_⟩:=hval;exact ⟨cs,hv⟩
    ·obtain ⟨cs,hv,_⟩:=hval;exact ⟨cs,hv⟩
   obtain ⟨cs,rfl⟩:=hv;refine ⟨.agg (flat d),by simp only [a3G,hu,ha,if_true];exact ⟨_,rfl,h2⟩,.agg _ _ (by simpa [Value.cells] using h1.symm) (fun i x hx=>(h3 i x hx).1) (fun i x hx=>?_),by simp [szD]⟩;have:=(h3 i x hx).2;simpa [Value.cells,List.getD,d8F] using this
  |false=>
   have hc:v.cells= #[v]:=by
    refine a9q hu ha ?_ hval
    rw [hu] at hrow ⊢;cases u<;>simp only [mI] at ha<;>(try cases ha)<;>first|rfl|(simp at hrow)
   rw [hc] at h1 h3;simp at h1;obtain ⟨x,hx⟩:∃x,flat d=[x]:=List.length_eq_one_iff.1 h1;simp only [hx] at h2 h3;refine ⟨x,by simp only [a3G,hu,ha];exact h2,by simpa using (h3 0 x rfl).2,by simp [hx,szL]⟩
theorem a7C {r:Reach}{b0:Nat}(sO:laidOutB P=true)(hp:yP P L=true):∀ {ts:List TypeId} {vs:List Value} {ds:List (DataW H)} {ps:List MemPlace},(∀t∈ts,L.contains t=true)→(∀(j:Nat) t v,ts[j]? =some t→vs[j]? =some v→Value.okWide P w r b0 t v)→
  DataW.TrodAll enc P w 0 sp held ts vs ds ps→∃xs,a5j P ts xs∧vs.length=xs.length∧(∀(i:Nat) (d:D),xs[i]? =some d→V (RW w) w (vs.getD i undef) d)∧szL xs≤Rows.uptoBulkAll ds
 |[],_,_,_,_,_,h=>by obtain ⟨rfl,rfl,rfl⟩:=trodAll_nil h;exact ⟨[],trivial,rfl,by simp,by simp [szL]⟩
 |t::ts,_,_,_,hT,hv,h=>by
  obtain ⟨v,vs1,d,ds1,a,b,rfl,rfl,rfl,h1,h2⟩:=trodAll_cons h;obtain ⟨x,q1,q2,q7⟩:=b6I sO hp (hT t (.head _)) (hv 0 t v rfl rfl) h1;obtain ⟨xs,q3,q4,q5,q6⟩:=a7C sO hp (fun t ht=>hT t (.tail _ ht)) (fun j t v a b=>hv (j+1) t v a b) h2;refine ⟨x::xs,⟨q1,q3⟩,by simp [q4],fun i d hi=>?_,by have:=b4d d;simp only [szL,Rows.uptoBulkAll];omega⟩
  cases i with
  |zero=>simp at hi;subst hi;simpa using q2
  |succ i=>simp at hi;simpa using q5 i d hi
theorem a9y {G:GT}{f:FuncId}{fn:Func}{s:ChangeSpec}{apart fresh handsOn again:Bool}{tb:TypeId}{r:Reach}{b0:Nat}(sO:laidOutB P=true)(hmr:mapsRowed P=true)(hsf:((List.range P.types.size).all fun t=>match P.underlying t with|some (.slice e)=>decide (0<P.cellsOf e)|_=>true)=true)(hp:yP P L=true){ts:List TypeId}(hts:fn.params.toList=ts)(hT:(ts.all fun t=>L.contains t)=true)(hvars:s.vars=[])(hres:fn.resultTypes= #[tb])(htb:P.underlying tb=some .bool)(hs:∀ds:List (DataW H),ds.length=ts.length→s.fn H ds={ results:=[.lit (.bool true)],args:=ds })(hcs:∀xs,a5j P ts xs→szL xs≤1048576→CS P G f xs (.d (.bool true)) none){W:World}{args:Array Value}{ds gs:List (DataW H)}{before:List MemPlace}(hval:∀(j:Nat) t v,fn.params[j]? =some t→args[j]? =some v→Value.okWide P W r b0 t v)(hW:DataW.Whole enc P fn.params.toList s.vars apart W args.toList ds gs before)(hG:a3q G (vL W.heap.size) (RW W) W)(hk:Rows.uptoSmall H (ds++gs)=true):
  Calls P f args W fun e W'=>∃v,e= .returned v∧s.post enc P fn apart fresh handsOn again W args v W':=by
 have hW':=hW;obtain ⟨p,q,hA,hV,rfl,hfz,hnd⟩:=hW;rw [hvars] at hV;obtain ⟨rfl,rfl⟩:=trodVars_none hV;rw [hts] at hA;have hTm:∀t∈ts,L.contains t=true:=d8G.1 hT;obtain ⟨xs,q1,q2,q3,q6⟩:=a7C sO hp hTm (fun j t v a b=>hval j t v (by rw [← Array.getElem?_toList,hts];exact a) (by rw [← Array.getElem?_toList];exact b)) hA;have hsz:szL xs≤1048576:=by have h1:Rows.uptoBulkAll (ds++[])≤1048576:=of_decide_eq_true hk;rw [List.append_nil] at h1;omega
 refine (hcs xs q1 hsz W (RW W) args hG (fun _ _ h=>h) (by simpa using q2) (fun i d hi=>by simpa [List.getD,d8F] using q3 i d hi)).mono fun e W' ⟨v,R',he,htv,hst,_,_⟩=>?_
 have hv:v= .bool true:=by
  have:=htv (fun _=>0);cases this with
  |d _ _ h=>cases h;rfl
 subst he hv;have hlen:=a7u hA;have hlt:∀x∈p++[],x.block<W.heap.size:=hW'.lt;refine ⟨_,rfl,c2o hW' hst.below.below (fun _ _ _=>?_) (fun sp' hsp=>?_) (fun _ _=>?_) ?_⟩
 ·rw [List.append_nil,hs ds hlen,hres];exact trodAll_cons_mk (shut_bool htb _) trodAll_mk0
 ·rw [List.append_nil,List.append_nil,hs ds hlen,hts];have h1:=a3H (w':=W') hA fun x hx=>hst.below.below.same (hlt x (by simpa using hx))
  refine h1.respare (kids_rows sO hmr) (fun t e ht hu=>slices_full_of P hsf t e ht hu) (fun t ht=>?_) (fun x hx=>hsp x (by simpa using hx));have hrow:=d8G.1 hp t (by simpa using hTm t ht);simp only [d8D,decide_eq_true_eq] at hrow;exact hrow.1
 ·rw [List.append_nil,hs ds hlen,hvars]
  rfl
 ·exact ok_one hres rfl (okWide_bool_mk htb _)
end
end Go.VM
end
section
section
namespace Go.Proofs.YtjpodcmhcenjjaaGreatDoor
open Go Go.VM
abbrev Nm:=List UInt8
theorem c4X:strs []=[]:=rfl
attribute [simp] c4X
structure Pr where
 op:Int
 name:Nm
 n:Int
 kids:List Pr
structure Ty where
 op:Int
 name:Nm
 args:List Ty
 names:List Nm
 pred:Pr
 a5o:List Pr
theorem Pr.ind {M:Pr→Prop}(h:∀p:Pr,(∀k∈p.kids,M k)→M p):∀p,M p
 |⟨op,nm,n,ks⟩=>h _ fun k hk=>Pr.ind h k
theorem Ty.ind {M:Ty→Prop}(h:∀t:Ty,(∀k∈t.args,M k)→M t):∀t,M t
 |⟨op,nm,l,ns,p,ps⟩=>h _ fun k hk=>Ty.ind h k
def rG:Pr→List D
 |⟨op,nm,n,ks⟩=>[.int .i64 op,.str nm,.int .i64 n,.sl (ks.map rG)]
abbrev prD (p:Pr):List D:=[.int .i64 p.op,.str p.name,.int .i64 p.n,.sl (p.kids.map rG)]
theorem gF (p:Pr):rG p=[.int .i64 p.op,.str p.name,.int .i64 p.n,.sl (p.kids.map rG)]:=by cases p;rw [rG]
def tyC:Ty→List D
 |⟨op,nm,l,ns,p,ps⟩=>[.int .i64 op,.str nm,.sl (l.map tyC),.sl (strs ns),.int .i64 p.op,.str p.name,.int .i64 p.n,.sl (p.kids.map rG),.sl (ps.map rG)]
abbrev tyD (t:Ty):List D:=[.int .i64 t.op,.str t.name,.sl (t.args.map tyC),.sl (strs t.names),.int .i64 t.pred.op,.str t.pred.name,.int .i64 t.pred.n,.sl (t.pred.kids.map rG),.sl (t.a5o.map rG)]
theorem cY (t:Ty):tyC t=[.int .i64 t.op,.str t.name,.sl (t.args.map tyC),.sl (strs t.names),.int .i64 t.pred.op,.str t.pred.name,.int .i64 t.pred.n,.sl (t.pred.kids.map rG),.sl (t.a5o.map rG)]:=by cases t;rw [tyC]
attribute [simp] gF cY
theorem wF {l:List Pr}{i:Nat}(h:i<l.length):(l.map rG)[i]? =some (prD l[i]):=by simp [h,gF]
theorem c9Z {l:List Ty}{i:Nat}(h:i<l.length):(l.map tyC)[i]? =some (tyD l[i]):=by simp [h,cY]
end Go.Proofs.YtjpodcmhcenjjaaGreatDoor
end
section
namespace Go.Proofs.YtjpodcmhcenjjaaGreatDoor
open Go Go.VM
variable {G:GT}
mutual
def dM:Pr→Nat
 |⟨_,_,_,l⟩=>1+eM l
def eM:List Pr→Nat
 |[]=>0
 |t::r=>dM t+eM r
end
mutual
theorem d0a:∀p:Pr,dM p≤szL (rG p)
 |⟨op,nm,n,l⟩=>by have:=b6J l;rw [gF];simp only [dM,szL,szD];omega
theorem b6J:∀l:List Pr,eM l≤b4c (l.map rG)
 |[]=>by simp [eM,b4c]
 |t::r=>by have h1:=d0a t;have h2:=b6J r;simp only [eM,List.map_cons,b4c];omega
end
theorem a6x:∀a b:List Pr,eM (a++b)=eM a+eM b
 |[],b=>by simp [eM]
 |t::a,b=>by simp only [List.cons_append,eM,a6x a b];omega
theorem qS (p:Pr):dM p=1+eM p.kids:=by cases p;rfl
theorem rU {l:List Pr}{i:Nat}(h:i<l.length):eM (l.take (i+1))=eM (l.take i)+dM l[i]:=by rw [d8S h,a6x];simp [eM]
theorem kK:∀(l:List Pr) (i:Nat),eM (l.take i)≤eM l
 |[],i=>by simp
 |t::r,0=>by simp [eM]
 |t::r,i+1=>by have:=kK r i;simp only [List.take_succ_cons,eM];omega
theorem b6K (p:Pr):1≤dM p:=by rw [qS];omega
theorem kE:∀l:List Pr,l.length≤eM l
 |[]=>by simp
 |t::r=>by have h1:=b6K t;have h2:=kE r;simp only [eM,List.length_cons];omega
end Go.Proofs.YtjpodcmhcenjjaaGreatDoor
end
section
namespace Go.Proofs.YtjpodcmhcenjjaaGreatDoor
open Go Go.VM
variable {G:GT}
theorem eU {P:Program}{q:Bool}{x:Out}{c:Prop}[Decidable c]{dst:Option Tmp}{all:Array Oper}{rest:List Oper}{k:List KI}{Q:Exit→St→Prop}(hc:c)(h:a7q P G q (some x) dst all rest k Q):a7q P G q (if c then some x else none) dst all rest k Q:=by rw [if_pos hc];exact h
theorem c4Y {α β:Type}(f:α→β){l:List α}{i:Nat}(h:i<l.length):(l.take (i+1)).map f=(l.take i).map f++[f l[i]]:=by
 rw [d8S h,List.map_append]
 rfl
end Go.Proofs.YtjpodcmhcenjjaaGreatDoor
end
end
